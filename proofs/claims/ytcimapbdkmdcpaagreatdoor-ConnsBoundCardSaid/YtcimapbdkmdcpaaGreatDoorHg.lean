/- A part of the proofs over this seat: what functions of the program compute, shown once each. No statement of the seat is closed in this text. -/
import Derived.Test.YtcimapbdkmdcpaaGreatDoorHf
set_option linter.all false
set_option linter.unusedVariables false
namespace Go.Proofs
open Go.Fm
attribute [local irreducible] WP opsWP opsGo CallTo RetTo PureF StepTo StoreTo thenQ blkQ loopQ bodyQ DrK
variable (G : Nat → Nat → Option AV)

set_option maxRecDepth 100000 in
set_option maxHeartbeats 4000000 in
theorem take2_spec (c : Cn) : PureF Tryz.prog G 21 [c.v] (.bool true) := by
  refine pure_body Tryz.tbOk Tryz.func21 rfl Tryz.ntmps21 rfl rfl rfl ⟨⟨trivial, trivial, trivial, trivial, trivial, trivial⟩, trivial⟩ trivial ?_
  dsimp only [initF]
  repeat' (first
    | refine f_seq ?_
    | refine f_region ?_
    | refine f_draw Tryz.mixed ?_
    | (refine ops_go rfl ?_; first
        | (apply g_sum Tryz.tbOk; exact rfl; exact rfl; exact rfl; exact rfl; exact rfl; (constructor <;> omega))
        | (apply g_rem Tryz.tbOk; exact rfl; exact rfl; exact rfl; exact rfl; (first | omega | (dsimp only; omega)))
        | (apply g_quo Tryz.tbOk; exact rfl; exact rfl; exact rfl; exact rfl; (first | omega | (dsimp only; omega)); (constructor <;> omega))
        | (apply g_cat; exact rfl; exact rfl; exact rfl; (first | omega | (simp; done) | (simp; omega)))
        | (apply g_cmp Tryz.tbOk; exact rfl; exact rfl; exact rfl; exact rfl; exact rfl; intro c hc; first | (have hb := BD.yes hc (by omega); subst hb; clear hc) | (have hb := BD.no hc (by omega); subst hb; clear hc) | skip)
        | (apply g_cmpS Tryz.tbOk; exact rfl; exact rfl; exact rfl; exact rfl; intro c hc)
        | (apply g_eqW Tryz.tbOk Tryz.elOk; exact rfl; exact rfl; exact rfl; exact rfl; exact rfl; exact rfl; intro c hc)
        | (apply g_conv Tryz.tbOk; exact rfl; exact rfl; exact rfl; exact rfl; exact rfl; (constructor <;> omega))
        | (apply x_set Tryz.tbOk Tryz.elOk Tryz.xtOk; exact rfl; exact rfl)
        | (apply x_grow Tryz.tbOk Tryz.elOk Tryz.xtOk; exact rfl; exact rfl)
        | (apply x_store Tryz.tbOk Tryz.elOk Tryz.xtOk; exact rfl)
        | (apply x_setN Tryz.tbOk Tryz.elOk Tryz.xtOk; exact rfl)
        | (apply g_ixs Tryz.tbOk; exact rfl; exact rfl; exact rfl; exact rfl; exact rfl; omega)
        | (apply g_ips Tryz.tbOk; exact rfl; exact rfl; exact rfl; exact rfl; exact rfl; exact rfl; exact rfl; (first | omega | (dsimp only; omega)))
        | (apply g_sls Tryz.tbOk; exact rfl; exact rfl; exact rfl; exact rfl; exact rfl; exact rfl; omega)
        | (apply g_ixg Tryz.tbOk; exact rfl; exact rfl; exact rfl; exact rfl; exact rfl; exact rfl; (first | omega | (dsimp only; omega))))
    | refine ops_skip rfl rfl ?_
    | refine ops_nil ?_
    | refine then_n ?_
    | refine f_condT rfl ?_
    | refine f_condF rfl ?_
    | refine f_block ?_
    | refine f_exit ?_
    | refine f_ret ?_
    | refine f_skip ?_
    | refine DrK.nil rfl ?_
    | refine d_skip rfl rfl ?_
    | refine d_skipN rfl ?_
    | (apply d_any; exact rfl; exact rfl; exact st_sum Tryz.tbOk rfl rfl rfl rfl (by constructor <;> omega))
    | (refine d_bd rfl rfl (st_cmp Tryz.tbOk rfl rfl rfl rfl) ?_; intro c hc; first | (have hb := BD.yes hc (by omega); subst hb; clear hc) | (have hb := BD.no hc (by omega); subst hb; clear hc) | skip)
    | (refine d_bd rfl rfl (st_cmpS Tryz.tbOk rfl rfl rfl) ?_; intro c hc)
    | (refine d_bd rfl rfl (st_eqW Tryz.tbOk Tryz.elOk rfl rfl rfl rfl rfl) ?_; intro c hc)
    | (apply d_set Tryz.tbOk Tryz.elOk Tryz.xtOk; exact rfl; exact rfl; exact rfl)
    | (apply d_ips Tryz.tbOk; exact rfl; exact rfl; exact rfl; exact rfl; exact rfl; exact rfl; exact rfl; exact rfl; (first | omega | (dsimp only; omega)))
    | (apply d_ixg Tryz.tbOk; exact rfl; exact rfl; exact rfl; exact rfl; exact rfl; exact rfl; exact rfl; (first | omega | (dsimp only; omega)))
    | (apply d_grow Tryz.tbOk Tryz.elOk Tryz.xtOk; exact rfl; exact rfl; exact rfl)
    | (apply d_store Tryz.tbOk Tryz.elOk Tryz.xtOk; exact rfl; exact rfl)
    | refine then_x ?_
    | refine then_r ?_
    | refine blk_n ?_
    | refine blk_eq rfl ?_
    | refine blk_ne rfl ?_
    | refine blk_r ?_
    | refine loop_x ?_
    | refine loop_r ?_
    | refine cut_x ?_
    | refine cut_r ?_
    | refine body_ret rfl rfl ?_
    | refine body_end rfl rfl ?_
    | exact (rfl : AEnd.ret _ = AEnd.ret _)
    | exact ⟨rfl, _, rfl⟩
    | exact ⟨rfl, HFin.refl _⟩
    | (rename BD _ _ => hbd; cases hbd)
    | (rename ¬ _ = _ => hq; exact absurd rfl hq))
set_option maxRecDepth 100000 in
set_option maxHeartbeats 4000000 in
theorem any_spec (c : Cn) : PureF Tryz.prog G 25 [c.v] (.bool true) := by
  refine pure_body Tryz.tbOk Tryz.func25 rfl Tryz.ntmps25 rfl rfl rfl ⟨⟨trivial, trivial, trivial, trivial, trivial, trivial⟩, trivial⟩ trivial ?_
  dsimp only [initF]
  repeat' (first
    | refine f_seq ?_
    | refine f_region ?_
    | refine f_draw Tryz.mixed ?_
    | (refine ops_go rfl ?_; first
        | (apply g_sum Tryz.tbOk; exact rfl; exact rfl; exact rfl; exact rfl; exact rfl; (constructor <;> omega))
        | (apply g_rem Tryz.tbOk; exact rfl; exact rfl; exact rfl; exact rfl; (first | omega | (dsimp only; omega)))
        | (apply g_quo Tryz.tbOk; exact rfl; exact rfl; exact rfl; exact rfl; (first | omega | (dsimp only; omega)); (constructor <;> omega))
        | (apply g_cat; exact rfl; exact rfl; exact rfl; (first | omega | (simp; done) | (simp; omega)))
        | (apply g_cmp Tryz.tbOk; exact rfl; exact rfl; exact rfl; exact rfl; exact rfl; intro c hc; first | (have hb := BD.yes hc (by omega); subst hb; clear hc) | (have hb := BD.no hc (by omega); subst hb; clear hc) | skip)
        | (apply g_cmpS Tryz.tbOk; exact rfl; exact rfl; exact rfl; exact rfl; intro c hc)
        | (apply g_eqW Tryz.tbOk Tryz.elOk; exact rfl; exact rfl; exact rfl; exact rfl; exact rfl; exact rfl; intro c hc)
        | (apply g_conv Tryz.tbOk; exact rfl; exact rfl; exact rfl; exact rfl; exact rfl; (constructor <;> omega))
        | (apply x_set Tryz.tbOk Tryz.elOk Tryz.xtOk; exact rfl; exact rfl)
        | (apply x_grow Tryz.tbOk Tryz.elOk Tryz.xtOk; exact rfl; exact rfl)
        | (apply x_store Tryz.tbOk Tryz.elOk Tryz.xtOk; exact rfl)
        | (apply x_setN Tryz.tbOk Tryz.elOk Tryz.xtOk; exact rfl)
        | (apply g_ixs Tryz.tbOk; exact rfl; exact rfl; exact rfl; exact rfl; exact rfl; omega)
        | (apply g_ips Tryz.tbOk; exact rfl; exact rfl; exact rfl; exact rfl; exact rfl; exact rfl; exact rfl; (first | omega | (dsimp only; omega)))
        | (apply g_sls Tryz.tbOk; exact rfl; exact rfl; exact rfl; exact rfl; exact rfl; exact rfl; omega)
        | (apply g_ixg Tryz.tbOk; exact rfl; exact rfl; exact rfl; exact rfl; exact rfl; exact rfl; (first | omega | (dsimp only; omega))))
    | refine ops_skip rfl rfl ?_
    | refine ops_nil ?_
    | refine then_n ?_
    | refine f_condT rfl ?_
    | refine f_condF rfl ?_
    | refine f_block ?_
    | refine f_exit ?_
    | refine f_ret ?_
    | refine f_skip ?_
    | refine DrK.nil rfl ?_
    | refine d_skip rfl rfl ?_
    | refine d_skipN rfl ?_
    | (apply d_any; exact rfl; exact rfl; exact st_sum Tryz.tbOk rfl rfl rfl rfl (by constructor <;> omega))
    | (refine d_bd rfl rfl (st_cmp Tryz.tbOk rfl rfl rfl rfl) ?_; intro c hc; first | (have hb := BD.yes hc (by omega); subst hb; clear hc) | (have hb := BD.no hc (by omega); subst hb; clear hc) | skip)
    | (refine d_bd rfl rfl (st_cmpS Tryz.tbOk rfl rfl rfl) ?_; intro c hc)
    | (refine d_bd rfl rfl (st_eqW Tryz.tbOk Tryz.elOk rfl rfl rfl rfl rfl) ?_; intro c hc)
    | (apply d_set Tryz.tbOk Tryz.elOk Tryz.xtOk; exact rfl; exact rfl; exact rfl)
    | (apply d_ips Tryz.tbOk; exact rfl; exact rfl; exact rfl; exact rfl; exact rfl; exact rfl; exact rfl; exact rfl; (first | omega | (dsimp only; omega)))
    | (apply d_ixg Tryz.tbOk; exact rfl; exact rfl; exact rfl; exact rfl; exact rfl; exact rfl; exact rfl; (first | omega | (dsimp only; omega)))
    | (apply d_grow Tryz.tbOk Tryz.elOk Tryz.xtOk; exact rfl; exact rfl; exact rfl)
    | (apply d_store Tryz.tbOk Tryz.elOk Tryz.xtOk; exact rfl; exact rfl)
    | refine then_x ?_
    | refine then_r ?_
    | refine blk_n ?_
    | refine blk_eq rfl ?_
    | refine blk_ne rfl ?_
    | refine blk_r ?_
    | refine loop_x ?_
    | refine loop_r ?_
    | refine cut_x ?_
    | refine cut_r ?_
    | refine body_ret rfl rfl ?_
    | refine body_end rfl rfl ?_
    | exact (rfl : AEnd.ret _ = AEnd.ret _)
    | exact ⟨rfl, _, rfl⟩
    | exact ⟨rfl, HFin.refl _⟩
    | (rename BD _ _ => hbd; cases hbd)
    | (rename ¬ _ = _ => hq; exact absurd rfl hq))

/-- Kept too long. -/
def oldB (now : Int) (c : Cn) : Bool := decide (0 ≤ c.given ∧ c.given < now ∧ 300 < now - c.given)
set_option maxRecDepth 100000 in
set_option maxHeartbeats 4000000 in
theorem old1_spec (c : Cn) (now : Int) (h0 : c.given ≤ 1099511627775) (h1 : 0 ≤ now ∧ now ≤ 1099511627775) : RetTo Tryz.prog G 26 [c.v, .ptr 0 0] [.cells [.int .i64 now] 3 false false] (.bool (oldB now c)) [.cells [.int .i64 now] 3 false false] := by
  refine RetTo.drop (call_body Tryz.tbOk Tryz.func26 rfl Tryz.ntmps26 rfl rfl rfl ?_) (by ((repeat' (first | exact trivial | assumption | exact AVs.le_mono (Nat.le_of_ble_eq_true rfl) _ (by assumption) | exact Nat.le_of_ble_eq_true rfl | exact Enc.Gr.le (by assumption) _ _ | exact gr_le (by assumption) _ | exact InSl.le (by assumption) _ | refine ⟨?_, ?_⟩)); (first | done | fail)))
  dsimp only [initF, List.length_cons, List.length_nil, Nat.zero_add]
  by_cases hk : 0 ≤ c.given
  · repeat' (first
      | refine f_seq ?_
      | refine f_region ?_
      | refine f_draw Tryz.mixed ?_
      | (refine ops_go rfl ?_; first
          | (apply g_callB; exact rfl; exact rfl; exact Tryz.fnOk rfl; exact kept_spec G c; intro c hc)
          | (apply g_callP; exact rfl; exact rfl; exact Tryz.fnOk rfl; exact idle_spec G c now ⟨hk, h0⟩ h1)
          | (apply g_sum Tryz.tbOk; exact rfl; exact rfl; exact rfl; exact rfl; exact rfl; (constructor <;> omega))
          | (apply g_rem Tryz.tbOk; exact rfl; exact rfl; exact rfl; exact rfl; (first | omega | (dsimp only; omega)))
          | (apply g_quo Tryz.tbOk; exact rfl; exact rfl; exact rfl; exact rfl; (first | omega | (dsimp only; omega)); (constructor <;> omega))
          | (apply g_cat; exact rfl; exact rfl; exact rfl; (first | omega | (simp; done) | (simp; omega)))
          | (apply g_cmp Tryz.tbOk; exact rfl; exact rfl; exact rfl; exact rfl; exact rfl; intro c hc; first | (have hb := BD.yes hc (by omega); subst hb; clear hc) | (have hb := BD.no hc (by omega); subst hb; clear hc) | skip)
          | (apply g_cmpS Tryz.tbOk; exact rfl; exact rfl; exact rfl; exact rfl; intro c hc)
          | (apply g_eqW Tryz.tbOk Tryz.elOk; exact rfl; exact rfl; exact rfl; exact rfl; exact rfl; exact rfl; intro c hc)
          | (apply g_conv Tryz.tbOk; exact rfl; exact rfl; exact rfl; exact rfl; exact rfl; (constructor <;> omega))
          | (apply x_set Tryz.tbOk Tryz.elOk Tryz.xtOk; exact rfl; exact rfl)
          | (apply x_grow Tryz.tbOk Tryz.elOk Tryz.xtOk; exact rfl; exact rfl)
          | (apply x_store Tryz.tbOk Tryz.elOk Tryz.xtOk; exact rfl)
          | (apply x_setN Tryz.tbOk Tryz.elOk Tryz.xtOk; exact rfl)
          | (apply g_ixs Tryz.tbOk; exact rfl; exact rfl; exact rfl; exact rfl; exact rfl; omega)
          | (apply g_ips Tryz.tbOk; exact rfl; exact rfl; exact rfl; exact rfl; exact rfl; exact rfl; exact rfl; (first | omega | (dsimp only; omega)))
          | (apply g_sls Tryz.tbOk; exact rfl; exact rfl; exact rfl; exact rfl; exact rfl; exact rfl; omega)
          | (apply g_ixg Tryz.tbOk; exact rfl; exact rfl; exact rfl; exact rfl; exact rfl; exact rfl; (first | omega | (dsimp only; omega))))
      | refine ops_skip rfl rfl ?_
      | refine ops_nil ?_
      | refine then_n ?_
      | refine f_condT rfl ?_
      | refine f_condF rfl ?_
      | refine f_block ?_
      | refine f_exit ?_
      | refine f_ret ?_
      | refine f_skip ?_
      | refine DrK.nil rfl ?_
      | refine d_skip rfl rfl ?_
      | refine d_skipN rfl ?_
      | (apply d_callB; exact rfl; exact rfl; exact rfl; exact Tryz.fnOk rfl; exact kept_spec G c; intro c hc)
      | (apply d_callP; exact rfl; exact rfl; exact rfl; exact Tryz.fnOk rfl; exact idle_spec G c now ⟨hk, h0⟩ h1)
      | (apply d_any; exact rfl; exact rfl; exact st_sum Tryz.tbOk rfl rfl rfl rfl (by constructor <;> omega))
      | (refine d_bd rfl rfl (st_cmp Tryz.tbOk rfl rfl rfl rfl) ?_; intro c hc; first | (have hb := BD.yes hc (by omega); subst hb; clear hc) | (have hb := BD.no hc (by omega); subst hb; clear hc) | skip)
      | (refine d_bd rfl rfl (st_cmpS Tryz.tbOk rfl rfl rfl) ?_; intro c hc)
      | (refine d_bd rfl rfl (st_eqW Tryz.tbOk Tryz.elOk rfl rfl rfl rfl rfl) ?_; intro c hc)
      | (apply d_set Tryz.tbOk Tryz.elOk Tryz.xtOk; exact rfl; exact rfl; exact rfl)
      | (apply d_ips Tryz.tbOk; exact rfl; exact rfl; exact rfl; exact rfl; exact rfl; exact rfl; exact rfl; exact rfl; (first | omega | (dsimp only; omega)))
      | (apply d_ixg Tryz.tbOk; exact rfl; exact rfl; exact rfl; exact rfl; exact rfl; exact rfl; exact rfl; (first | omega | (dsimp only; omega)))
      | (apply d_grow Tryz.tbOk Tryz.elOk Tryz.xtOk; exact rfl; exact rfl; exact rfl)
      | (apply d_store Tryz.tbOk Tryz.elOk Tryz.xtOk; exact rfl; exact rfl)
      | refine then_x ?_
      | refine then_r ?_
      | refine blk_n ?_
      | refine blk_eq rfl ?_
      | refine blk_ne rfl ?_
      | refine blk_r ?_
      | refine loop_x ?_
      | refine loop_r ?_
      | refine cut_x ?_
      | refine cut_r ?_
      | refine body_ret rfl rfl ?_
      | refine body_end rfl rfl ?_
      | exact (rfl : AEnd.ret _ = AEnd.ret _)
      | exact ⟨rfl, _, rfl⟩
      | exact ⟨rfl, HFin.refl _⟩
      | (rename BD _ _ => hbd; cases hbd)
      | (rename ¬ _ = _ => hq; exact absurd rfl hq))
    · have : oldB now c = decide (c.given < now ∧ 300 < now - c.given) := by simp [oldB, hk]
      rw [this]; exact ⟨rfl, _, rfl⟩
    · rename_i q; simp [hk] at q
  · repeat' (first
      | refine f_seq ?_
      | refine f_region ?_
      | refine f_draw Tryz.mixed ?_
      | (refine ops_go rfl ?_; first
          | (apply g_callB; exact rfl; exact rfl; exact Tryz.fnOk rfl; exact kept_spec G c; intro c hc)
          | (apply g_sum Tryz.tbOk; exact rfl; exact rfl; exact rfl; exact rfl; exact rfl; (constructor <;> omega))
          | (apply g_rem Tryz.tbOk; exact rfl; exact rfl; exact rfl; exact rfl; (first | omega | (dsimp only; omega)))
          | (apply g_quo Tryz.tbOk; exact rfl; exact rfl; exact rfl; exact rfl; (first | omega | (dsimp only; omega)); (constructor <;> omega))
          | (apply g_cat; exact rfl; exact rfl; exact rfl; (first | omega | (simp; done) | (simp; omega)))
          | (apply g_cmp Tryz.tbOk; exact rfl; exact rfl; exact rfl; exact rfl; exact rfl; intro c hc; first | (have hb := BD.yes hc (by omega); subst hb; clear hc) | (have hb := BD.no hc (by omega); subst hb; clear hc) | skip)
          | (apply g_cmpS Tryz.tbOk; exact rfl; exact rfl; exact rfl; exact rfl; intro c hc)
          | (apply g_eqW Tryz.tbOk Tryz.elOk; exact rfl; exact rfl; exact rfl; exact rfl; exact rfl; exact rfl; intro c hc)
          | (apply g_conv Tryz.tbOk; exact rfl; exact rfl; exact rfl; exact rfl; exact rfl; (constructor <;> omega))
          | (apply x_set Tryz.tbOk Tryz.elOk Tryz.xtOk; exact rfl; exact rfl)
          | (apply x_grow Tryz.tbOk Tryz.elOk Tryz.xtOk; exact rfl; exact rfl)
          | (apply x_store Tryz.tbOk Tryz.elOk Tryz.xtOk; exact rfl)
          | (apply x_setN Tryz.tbOk Tryz.elOk Tryz.xtOk; exact rfl)
          | (apply g_ixs Tryz.tbOk; exact rfl; exact rfl; exact rfl; exact rfl; exact rfl; omega)
          | (apply g_ips Tryz.tbOk; exact rfl; exact rfl; exact rfl; exact rfl; exact rfl; exact rfl; exact rfl; (first | omega | (dsimp only; omega)))
          | (apply g_sls Tryz.tbOk; exact rfl; exact rfl; exact rfl; exact rfl; exact rfl; exact rfl; omega)
          | (apply g_ixg Tryz.tbOk; exact rfl; exact rfl; exact rfl; exact rfl; exact rfl; exact rfl; (first | omega | (dsimp only; omega))))
      | refine ops_skip rfl rfl ?_
      | refine ops_nil ?_
      | refine then_n ?_
      | refine f_condT rfl ?_
      | refine f_condF rfl ?_
      | refine f_block ?_
      | refine f_exit ?_
      | refine f_ret ?_
      | refine f_skip ?_
      | refine DrK.nil rfl ?_
      | refine d_skip rfl rfl ?_
      | refine d_skipN rfl ?_
      | (apply d_callB; exact rfl; exact rfl; exact rfl; exact Tryz.fnOk rfl; exact kept_spec G c; intro c hc)
      | (apply d_any; exact rfl; exact rfl; exact st_sum Tryz.tbOk rfl rfl rfl rfl (by constructor <;> omega))
      | (refine d_bd rfl rfl (st_cmp Tryz.tbOk rfl rfl rfl rfl) ?_; intro c hc; first | (have hb := BD.yes hc (by omega); subst hb; clear hc) | (have hb := BD.no hc (by omega); subst hb; clear hc) | skip)
      | (refine d_bd rfl rfl (st_cmpS Tryz.tbOk rfl rfl rfl) ?_; intro c hc)
      | (refine d_bd rfl rfl (st_eqW Tryz.tbOk Tryz.elOk rfl rfl rfl rfl rfl) ?_; intro c hc)
      | (apply d_set Tryz.tbOk Tryz.elOk Tryz.xtOk; exact rfl; exact rfl; exact rfl)
      | (apply d_ips Tryz.tbOk; exact rfl; exact rfl; exact rfl; exact rfl; exact rfl; exact rfl; exact rfl; exact rfl; (first | omega | (dsimp only; omega)))
      | (apply d_ixg Tryz.tbOk; exact rfl; exact rfl; exact rfl; exact rfl; exact rfl; exact rfl; exact rfl; (first | omega | (dsimp only; omega)))
      | (apply d_grow Tryz.tbOk Tryz.elOk Tryz.xtOk; exact rfl; exact rfl; exact rfl)
      | (apply d_store Tryz.tbOk Tryz.elOk Tryz.xtOk; exact rfl; exact rfl)
      | refine then_x ?_
      | refine then_r ?_
      | refine blk_n ?_
      | refine blk_eq rfl ?_
      | refine blk_ne rfl ?_
      | refine blk_r ?_
      | refine loop_x ?_
      | refine loop_r ?_
      | refine cut_x ?_
      | refine cut_r ?_
      | refine body_ret rfl rfl ?_
      | refine body_end rfl rfl ?_
      | exact (rfl : AEnd.ret _ = AEnd.ret _)
      | exact ⟨rfl, _, rfl⟩
      | exact ⟨rfl, HFin.refl _⟩
      | (rename BD _ _ => hbd; cases hbd)
      | (rename ¬ _ = _ => hq; exact absurd rfl hq))
    · rename_i q; simp [hk] at q
    · have : oldB now c = false := by simp [oldB, hk]
      rw [this]; exact ⟨rfl, _, rfl⟩

def intE : Enc Int 1 := ⟨fun n => [.int .i64 n], fun _ => rfl⟩
theorem intGr : intE.Gr := fun _ => rfl
theorem intOne : intE.One := fun _ => rfl

set_option maxRecDepth 100000 in
set_option maxHeartbeats 4000000 in
theorem clip0_spec : PureF Tryz.prog G 32 [.nils] .nils := by
  refine pure_body Tryz.tbOk Tryz.func32 rfl Tryz.ntmps32 rfl rfl rfl ⟨trivial, trivial⟩ trivial ?_
  dsimp only [initF]
  repeat' (first
    | refine f_seq ?_
    | refine f_region ?_
    | refine f_draw Tryz.mixed ?_
    | (refine ops_go rfl ?_; first
        | (apply g_sum Tryz.tbOk; exact rfl; exact rfl; exact rfl; exact rfl; exact rfl; (constructor <;> omega))
        | (apply g_rem Tryz.tbOk; exact rfl; exact rfl; exact rfl; exact rfl; (first | omega | (dsimp only; omega)))
        | (apply g_quo Tryz.tbOk; exact rfl; exact rfl; exact rfl; exact rfl; (first | omega | (dsimp only; omega)); (constructor <;> omega))
        | (apply g_cat; exact rfl; exact rfl; exact rfl; (first | omega | (simp; done) | (simp; omega)))
        | (apply g_cmp Tryz.tbOk; exact rfl; exact rfl; exact rfl; exact rfl; exact rfl; intro c hc; first | (have hb := BD.yes hc (by omega); subst hb; clear hc) | (have hb := BD.no hc (by omega); subst hb; clear hc) | skip)
        | (apply g_cmpS Tryz.tbOk; exact rfl; exact rfl; exact rfl; exact rfl; intro c hc)
        | (apply g_eqW Tryz.tbOk Tryz.elOk; exact rfl; exact rfl; exact rfl; exact rfl; exact rfl; exact rfl; intro c hc)
        | (apply g_conv Tryz.tbOk; exact rfl; exact rfl; exact rfl; exact rfl; exact rfl; (constructor <;> omega))
        | (apply x_set Tryz.tbOk Tryz.elOk Tryz.xtOk; exact rfl; exact rfl)
        | (apply x_grow Tryz.tbOk Tryz.elOk Tryz.xtOk; exact rfl; exact rfl)
        | (apply x_store Tryz.tbOk Tryz.elOk Tryz.xtOk; exact rfl)
        | (apply x_setN Tryz.tbOk Tryz.elOk Tryz.xtOk; exact rfl)
        | (apply g_ixs Tryz.tbOk; exact rfl; exact rfl; exact rfl; exact rfl; exact rfl; omega)
        | (apply g_ips Tryz.tbOk; exact rfl; exact rfl; exact rfl; exact rfl; exact rfl; exact rfl; exact rfl; (first | omega | (dsimp only; omega)))
        | (apply g_sls Tryz.tbOk; exact rfl; exact rfl; exact rfl; exact rfl; exact rfl; exact rfl; omega)
        | (apply g_ixg Tryz.tbOk; exact rfl; exact rfl; exact rfl; exact rfl; exact rfl; exact rfl; (first | omega | (dsimp only; omega))))
    | refine ops_skip rfl rfl ?_
    | refine ops_nil ?_
    | refine then_n ?_
    | refine f_condT rfl ?_
    | refine f_condF rfl ?_
    | refine f_block ?_
    | refine f_exit ?_
    | refine f_ret ?_
    | refine f_skip ?_
    | refine DrK.nil rfl ?_
    | refine d_skip rfl rfl ?_
    | refine d_skipN rfl ?_
    | (apply d_any; exact rfl; exact rfl; exact st_sum Tryz.tbOk rfl rfl rfl rfl (by constructor <;> omega))
    | (refine d_bd rfl rfl (st_cmp Tryz.tbOk rfl rfl rfl rfl) ?_; intro c hc; first | (have hb := BD.yes hc (by omega); subst hb; clear hc) | (have hb := BD.no hc (by omega); subst hb; clear hc) | skip)
    | (refine d_bd rfl rfl (st_cmpS Tryz.tbOk rfl rfl rfl) ?_; intro c hc)
    | (refine d_bd rfl rfl (st_eqW Tryz.tbOk Tryz.elOk rfl rfl rfl rfl rfl) ?_; intro c hc)
    | (apply d_set Tryz.tbOk Tryz.elOk Tryz.xtOk; exact rfl; exact rfl; exact rfl)
    | (apply d_ips Tryz.tbOk; exact rfl; exact rfl; exact rfl; exact rfl; exact rfl; exact rfl; exact rfl; exact rfl; (first | omega | (dsimp only; omega)))
    | (apply d_ixg Tryz.tbOk; exact rfl; exact rfl; exact rfl; exact rfl; exact rfl; exact rfl; exact rfl; (first | omega | (dsimp only; omega)))
    | (apply d_grow Tryz.tbOk Tryz.elOk Tryz.xtOk; exact rfl; exact rfl; exact rfl)
    | (apply d_store Tryz.tbOk Tryz.elOk Tryz.xtOk; exact rfl; exact rfl)
    | refine then_x ?_
    | refine then_r ?_
    | refine blk_n ?_
    | refine blk_eq rfl ?_
    | refine blk_ne rfl ?_
    | refine blk_r ?_
    | refine loop_x ?_
    | refine loop_r ?_
    | refine cut_x ?_
    | refine cut_r ?_
    | refine body_ret rfl rfl ?_
    | refine body_end rfl rfl ?_
    | exact (rfl : AEnd.ret _ = AEnd.ret _)
    | exact ⟨rfl, _, rfl⟩
    | exact ⟨rfl, HFin.refl _⟩
    | (rename BD _ _ => hbd; cases hbd)
    | (rename ¬ _ = _ => hq; exact absurd rfl hq))
set_option maxRecDepth 100000 in
set_option maxHeartbeats 4000000 in
theorem clip_spec (l : List Int) (h0 : 0 < l.length) : RetTo Tryz.prog G 32 [.slc 0 0 l.length (.opn 0 0)] [.cells (intE.of l) 3 true false] (.slc 0 0 l.length (.exact l.length)) [.cells (intE.of l) 3 true false] := by
  refine RetTo.drop (call_body Tryz.tbOk Tryz.func32 rfl Tryz.ntmps32 rfl rfl rfl ?_) (by ((repeat' (first | exact trivial | assumption | exact AVs.le_mono (Nat.le_of_ble_eq_true rfl) _ (by assumption) | exact Nat.le_of_ble_eq_true rfl | exact Enc.Gr.le (by assumption) _ _ | exact gr_le (by assumption) _ | exact InSl.le (by assumption) _ | refine ⟨?_, ?_⟩)); (first | done | fail)))
  dsimp only [initF, List.length_cons, List.length_nil, Nat.zero_add]
  repeat' (first
    | refine f_seq ?_
    | refine f_region ?_
    | refine f_draw Tryz.mixed ?_
    | (refine ops_go rfl ?_; first
        | (apply g_slo3 0 l.length l.length Tryz.tbOk; exact rfl; exact rfl; exact rfl; exact rfl; exact rfl; exact rfl; exact rfl; exact rfl; exact rfl; exact rfl; exact rfl; omega; (rw [intE.of_length]; dsimp only; omega); (dsimp only; omega); omega; omega)
        | (apply g_sum Tryz.tbOk; exact rfl; exact rfl; exact rfl; exact rfl; exact rfl; (constructor <;> omega))
        | (apply g_rem Tryz.tbOk; exact rfl; exact rfl; exact rfl; exact rfl; (first | omega | (dsimp only; omega)))
        | (apply g_quo Tryz.tbOk; exact rfl; exact rfl; exact rfl; exact rfl; (first | omega | (dsimp only; omega)); (constructor <;> omega))
        | (apply g_cat; exact rfl; exact rfl; exact rfl; (first | omega | (simp; done) | (simp; omega)))
        | (apply g_cmp Tryz.tbOk; exact rfl; exact rfl; exact rfl; exact rfl; exact rfl; intro c hc; first | (have hb := BD.yes hc (by omega); subst hb; clear hc) | (have hb := BD.no hc (by omega); subst hb; clear hc) | skip)
        | (apply g_cmpS Tryz.tbOk; exact rfl; exact rfl; exact rfl; exact rfl; intro c hc)
        | (apply g_eqW Tryz.tbOk Tryz.elOk; exact rfl; exact rfl; exact rfl; exact rfl; exact rfl; exact rfl; intro c hc)
        | (apply g_conv Tryz.tbOk; exact rfl; exact rfl; exact rfl; exact rfl; exact rfl; (constructor <;> omega))
        | (apply x_set Tryz.tbOk Tryz.elOk Tryz.xtOk; exact rfl; exact rfl)
        | (apply x_grow Tryz.tbOk Tryz.elOk Tryz.xtOk; exact rfl; exact rfl)
        | (apply x_store Tryz.tbOk Tryz.elOk Tryz.xtOk; exact rfl)
        | (apply x_setN Tryz.tbOk Tryz.elOk Tryz.xtOk; exact rfl)
        | (apply g_ixs Tryz.tbOk; exact rfl; exact rfl; exact rfl; exact rfl; exact rfl; omega)
        | (apply g_ips Tryz.tbOk; exact rfl; exact rfl; exact rfl; exact rfl; exact rfl; exact rfl; exact rfl; (first | omega | (dsimp only; omega)))
        | (apply g_sls Tryz.tbOk; exact rfl; exact rfl; exact rfl; exact rfl; exact rfl; exact rfl; omega)
        | (apply g_ixg Tryz.tbOk; exact rfl; exact rfl; exact rfl; exact rfl; exact rfl; exact rfl; (first | omega | (dsimp only; omega))))
    | refine ops_skip rfl rfl ?_
    | refine ops_nil ?_
    | refine then_n ?_
    | refine f_condT rfl ?_
    | refine f_condF rfl ?_
    | refine f_block ?_
    | refine f_exit ?_
    | refine f_ret ?_
    | refine f_skip ?_
    | refine DrK.nil rfl ?_
    | refine d_skip rfl rfl ?_
    | refine d_skipN rfl ?_
    | (apply d_any; exact rfl; exact rfl; exact st_sum Tryz.tbOk rfl rfl rfl rfl (by constructor <;> omega))
    | (refine d_bd rfl rfl (st_cmp Tryz.tbOk rfl rfl rfl rfl) ?_; intro c hc; first | (have hb := BD.yes hc (by omega); subst hb; clear hc) | (have hb := BD.no hc (by omega); subst hb; clear hc) | skip)
    | (refine d_bd rfl rfl (st_cmpS Tryz.tbOk rfl rfl rfl) ?_; intro c hc)
    | (refine d_bd rfl rfl (st_eqW Tryz.tbOk Tryz.elOk rfl rfl rfl rfl rfl) ?_; intro c hc)
    | (apply d_set Tryz.tbOk Tryz.elOk Tryz.xtOk; exact rfl; exact rfl; exact rfl)
    | (apply d_ips Tryz.tbOk; exact rfl; exact rfl; exact rfl; exact rfl; exact rfl; exact rfl; exact rfl; exact rfl; (first | omega | (dsimp only; omega)))
    | (apply d_ixg Tryz.tbOk; exact rfl; exact rfl; exact rfl; exact rfl; exact rfl; exact rfl; exact rfl; (first | omega | (dsimp only; omega)))
    | (apply d_grow Tryz.tbOk Tryz.elOk Tryz.xtOk; exact rfl; exact rfl; exact rfl)
    | (apply d_store Tryz.tbOk Tryz.elOk Tryz.xtOk; exact rfl; exact rfl)
    | refine then_x ?_
    | refine then_r ?_
    | refine blk_n ?_
    | refine blk_eq rfl ?_
    | refine blk_ne rfl ?_
    | refine blk_r ?_
    | refine loop_x ?_
    | refine loop_r ?_
    | refine cut_x ?_
    | refine cut_r ?_
    | refine body_ret rfl rfl ?_
    | refine body_end rfl rfl ?_
    | exact (rfl : AEnd.ret _ = AEnd.ret _)
    | exact ⟨rfl, _, rfl⟩
    | exact ⟨rfl, HFin.refl _⟩
    | (rename BD _ _ => hbd; cases hbd)
    | (rename ¬ _ = _ => hq; exact absurd rfl hq))

def outV (i : Nat) : List Int → AV
  | [] => .nils
  | x :: t => .slc i 0 (x :: t).length (.opn 0 0)
/-- What is handed back: no more room. -/
def resV (i : Nat) : List Int → AV
  | [] => .nils
  | x :: t => .slc i 0 (x :: t).length (.exact (x :: t).length)
def outO : List Int → Heap
  | [] => []
  | x :: t => [.cells (intE.of (x :: t)) 3 true true]
def idsOf (p : Cn → Bool) (l : List Cn) : List Int := (l.filter p).map (·.id)
theorem idsOf_s {p : Cn → Bool} {l : List Cn} {k : Nat} {x : Cn} (hx : l[k]? = some x) : idsOf p (l.take (k + 1)) = idsOf p (l.take k) ++ (if p x then [x.id] else []) := by
  rw [take_at hx]; unfold idsOf
  rw [List.filter_append, List.map_append]
  congr 1
  by_cases h : p x <;> simp [h]
theorem idsOf_le (p : Cn → Bool) (l : List Cn) (k : Nat) : (idsOf p (l.take k)).length ≤ k := by
  unfold idsOf
  rw [List.length_map]
  exact Nat.le_trans (List.length_filter_le _ _) (List.length_take_le _ _)

def Tryz.lv24 : List (List Nat) := [[0, 1], [0, 1, 4], [], [0, 1, 4], [1, 4, 13, 14, 15], [1, 4, 13, 14, 15], [1, 4, 6, 13, 14, 15], [1, 4, 6, 13, 14, 15], [1, 4, 13, 14, 15], [4]]
set_option maxRecDepth 100000 in
set_option maxHeartbeats 4000000 in
theorem numbers0_spec (l : List Cn) (sv : AV) (next : Int) (p : Cn → Bool) (f : FuncId) (hf : FnOk Tryz.prog f) (caps : List AV)  (hcap : AVs.le 3 caps) (hcr : ∀ s : Nat → Nat, s 2 = 2 → AVs.ren s caps = caps) (hl : l.length ≤ 1000000) (hs : slOk sv l)
    (hp : ∀ c ∈ l, ∀ g, RetTo Tryz.prog G f (c.v :: caps) ([cObj sv next, aObj l, .dead] ++ g) (.bool (p c)) ([cObj sv next, aObj l, .dead] ++ g)) :
    CallTo Tryz.prog G 24 [.ptr 0 0, .fn (.func f) [] caps] [cObj sv next, aObj l, .dead] (fun e h' => e = .ret (resV 3 (idsOf p l)) ∧ HFin h' ([cObj sv next, aObj l, .dead] ++ outO (idsOf p l))) := by
  have hgr := cnGr
  have hgi := intGr
  refine call_body Tryz.tbOk Tryz.func24 rfl Tryz.ntmps24 rfl rfl rfl ?_
  dsimp only [initF, List.length_cons, List.length_nil, Nat.zero_add]
  rcases hs with ⟨rfl, rfl⟩ | rfl
  · repeat' (first
      | (refine f_rounds (k := 1) ?_; show WP _ _ _ _ _ _ _ _)
      | refine f_seq ?_
      | (refine f_regionL Tryz.lv24 ?_; show opsWP _ _ _ _ _ _ _ _ _)
      | (refine f_drawL Tryz.lv24 Tryz.mixed ?_; show DrK _ _ _ _ _ _ _ _ _ _)
      | (refine ops_go rfl ?_; first
          | (apply g_ret; exact rfl; exact rfl; exact Tryz.fnOk rfl; exact RetTo.frameR (there_spec G [] .nils next) [0, 1] rfl (by ((repeat' (first | exact trivial | exact fits_enc (by assumption) (fun _ => rfl) | exact fits_enc (by assumption) (fun h => h) | exact ⟨_, rfl, fun _ => rfl⟩ | exact ⟨_, rfl, fun h => h⟩ | refine ⟨?_, ?_⟩)); (first | done | fail))) (by ((repeat' (first | exact trivial | assumption | exact AVs.le_mono (Nat.le_of_ble_eq_true rfl) _ (by assumption) | exact Nat.le_of_ble_eq_true rfl | exact Enc.Gr.le (by assumption) _ _ | exact gr_le (by assumption) _ | exact InSl.le (by assumption) _ | refine ⟨?_, ?_⟩)); (first | done | fail))) (by ((repeat' (first | exact trivial | assumption | exact AVs.le_mono (Nat.le_of_ble_eq_true rfl) _ (by assumption) | exact Nat.le_of_ble_eq_true rfl | exact Enc.Gr.le (by assumption) _ _ | exact gr_le (by assumption) _ | exact InSl.le (by assumption) _ | refine ⟨?_, ?_⟩)); (first | done | fail))) rfl rfl rfl)
          | (apply g_callP; exact rfl; exact rfl; exact Tryz.fnOk rfl; exact clip0_spec G)
          | (apply g_sum Tryz.tbOk; exact rfl; exact rfl; exact rfl; exact rfl; exact rfl; (constructor <;> omega))
          | (apply g_rem Tryz.tbOk; exact rfl; exact rfl; exact rfl; exact rfl; (first | omega | (dsimp only; omega)))
          | (apply g_quo Tryz.tbOk; exact rfl; exact rfl; exact rfl; exact rfl; (first | omega | (dsimp only; omega)); (constructor <;> omega))
          | (apply g_cat; exact rfl; exact rfl; exact rfl; (first | omega | (simp; done) | (simp; omega)))
          | (apply g_cmp Tryz.tbOk; exact rfl; exact rfl; exact rfl; exact rfl; exact rfl; intro c hc; first | (have hb := BD.yes hc (by omega); subst hb; clear hc) | (have hb := BD.no hc (by omega); subst hb; clear hc) | skip)
          | (apply g_cmpS Tryz.tbOk; exact rfl; exact rfl; exact rfl; exact rfl; intro c hc)
          | (apply g_eqW Tryz.tbOk Tryz.elOk; exact rfl; exact rfl; exact rfl; exact rfl; exact rfl; exact rfl; intro c hc)
          | (apply g_conv Tryz.tbOk; exact rfl; exact rfl; exact rfl; exact rfl; exact rfl; (constructor <;> omega))
          | (apply x_set Tryz.tbOk Tryz.elOk Tryz.xtOk; exact rfl; exact rfl)
          | (apply x_grow Tryz.tbOk Tryz.elOk Tryz.xtOk; exact rfl; exact rfl)
          | (apply x_store Tryz.tbOk Tryz.elOk Tryz.xtOk; exact rfl)
          | (apply x_setN Tryz.tbOk Tryz.elOk Tryz.xtOk; exact rfl)
          | (apply g_ixs Tryz.tbOk; exact rfl; exact rfl; exact rfl; exact rfl; exact rfl; omega)
          | (apply g_ips Tryz.tbOk; exact rfl; exact rfl; exact rfl; exact rfl; exact rfl; exact rfl; exact rfl; (first | omega | (dsimp only; omega)))
          | (apply g_sls Tryz.tbOk; exact rfl; exact rfl; exact rfl; exact rfl; exact rfl; exact rfl; omega)
          | (apply g_ixg Tryz.tbOk; exact rfl; exact rfl; exact rfl; exact rfl; exact rfl; exact rfl; (first | omega | (dsimp only; omega))))
      | refine ops_skip rfl rfl ?_
      | refine ops_nil ?_
      | refine then_n ?_
      | refine f_condT rfl ?_
      | refine f_condF rfl ?_
      | refine f_block ?_
      | refine f_exit ?_
      | refine f_ret ?_
      | refine f_skip ?_
      | refine DrK.nil rfl ?_
      | refine d_skip rfl rfl ?_
      | refine d_skipN rfl ?_
      | (apply d_callR; exact rfl; exact rfl; exact rfl; exact Tryz.fnOk rfl; exact fun g => RetTo.frameR (there_spec G [] .nils next) [0, 1] rfl (by ((repeat' (first | exact trivial | exact fits_enc (by assumption) (fun _ => rfl) | exact fits_enc (by assumption) (fun h => h) | exact ⟨_, rfl, fun _ => rfl⟩ | exact ⟨_, rfl, fun h => h⟩ | refine ⟨?_, ?_⟩)); (first | done | fail))) (by ((repeat' (first | exact trivial | assumption | exact AVs.le_mono (Nat.le_of_ble_eq_true rfl) _ (by assumption) | exact Nat.le_of_ble_eq_true rfl | exact Enc.Gr.le (by assumption) _ _ | exact gr_le (by assumption) _ | exact InSl.le (by assumption) _ | refine ⟨?_, ?_⟩)); (first | done | fail))) (by ((repeat' (first | exact trivial | assumption | exact AVs.le_mono (Nat.le_of_ble_eq_true rfl) _ (by assumption) | exact Nat.le_of_ble_eq_true rfl | exact Enc.Gr.le (by assumption) _ _ | exact gr_le (by assumption) _ | exact InSl.le (by assumption) _ | refine ⟨?_, ?_⟩)); (first | done | fail))) rfl rfl (List.append_nil _))
      | (apply d_callP; exact rfl; exact rfl; exact rfl; exact Tryz.fnOk rfl; exact clip0_spec G)
      | (apply d_any; exact rfl; exact rfl; exact st_sum Tryz.tbOk rfl rfl rfl rfl (by constructor <;> omega))
      | (refine d_bd rfl rfl (st_cmp Tryz.tbOk rfl rfl rfl rfl) ?_; intro c hc; first | (have hb := BD.yes hc (by omega); subst hb; clear hc) | (have hb := BD.no hc (by omega); subst hb; clear hc) | skip)
      | (refine d_bd rfl rfl (st_cmpS Tryz.tbOk rfl rfl rfl) ?_; intro c hc)
      | (refine d_bd rfl rfl (st_eqW Tryz.tbOk Tryz.elOk rfl rfl rfl rfl rfl) ?_; intro c hc)
      | (apply d_set Tryz.tbOk Tryz.elOk Tryz.xtOk; exact rfl; exact rfl; exact rfl)
      | (apply d_ips Tryz.tbOk; exact rfl; exact rfl; exact rfl; exact rfl; exact rfl; exact rfl; exact rfl; exact rfl; (first | omega | (dsimp only; omega)))
      | (apply d_ixg Tryz.tbOk; exact rfl; exact rfl; exact rfl; exact rfl; exact rfl; exact rfl; exact rfl; (first | omega | (dsimp only; omega)))
      | (apply d_grow Tryz.tbOk Tryz.elOk Tryz.xtOk; exact rfl; exact rfl; exact rfl)
      | (apply d_store Tryz.tbOk Tryz.elOk Tryz.xtOk; exact rfl; exact rfl)
      | refine then_x ?_
      | refine then_r ?_
      | refine blk_n ?_
      | refine blk_eq rfl ?_
      | refine blk_ne rfl ?_
      | refine blk_r ?_
      | refine loop_x ?_
      | refine loop_r ?_
      | refine cut_x ?_
      | refine cut_r ?_
      | refine body_ret rfl rfl ?_
      | refine body_end rfl rfl ?_
      | exact (rfl : AEnd.ret _ = AEnd.ret _)
      | exact ⟨rfl, _, rfl⟩
      | exact ⟨rfl, HFin.refl _⟩
      | (rename BD _ _ => hbd; cases hbd)
      | (rename ¬ _ = _ => hq; exact absurd rfl hq))
  · repeat' (first
      | refine f_seq ?_
      | (refine f_regionL Tryz.lv24 ?_; show opsWP _ _ _ _ _ _ _ _ _)
      | (refine f_drawL Tryz.lv24 Tryz.mixed ?_; show DrK _ _ _ _ _ _ _ _ _ _)
      | (refine ops_go rfl ?_; first
          | (apply g_ret; exact rfl; exact rfl; exact Tryz.fnOk rfl; exact RetTo.frameR (there_spec G l (.slc 1 0 l.length (.opn 0 0)) next) [0, 1] rfl (by ((repeat' (first | exact trivial | exact fits_enc (by assumption) (fun _ => rfl) | exact fits_enc (by assumption) (fun h => h) | exact ⟨_, rfl, fun _ => rfl⟩ | exact ⟨_, rfl, fun h => h⟩ | refine ⟨?_, ?_⟩)); (first | done | fail))) (by ((repeat' (first | exact trivial | assumption | exact AVs.le_mono (Nat.le_of_ble_eq_true rfl) _ (by assumption) | exact Nat.le_of_ble_eq_true rfl | exact Enc.Gr.le (by assumption) _ _ | exact gr_le (by assumption) _ | exact InSl.le (by assumption) _ | refine ⟨?_, ?_⟩)); (first | done | fail))) (by ((repeat' (first | exact trivial | assumption | exact AVs.le_mono (Nat.le_of_ble_eq_true rfl) _ (by assumption) | exact Nat.le_of_ble_eq_true rfl | exact Enc.Gr.le (by assumption) _ _ | exact gr_le (by assumption) _ | exact InSl.le (by assumption) _ | refine ⟨?_, ?_⟩)); (first | done | fail))) rfl rfl rfl)
          | (apply g_sum Tryz.tbOk; exact rfl; exact rfl; exact rfl; exact rfl; exact rfl; (constructor <;> omega))
          | (apply g_rem Tryz.tbOk; exact rfl; exact rfl; exact rfl; exact rfl; (first | omega | (dsimp only; omega)))
          | (apply g_quo Tryz.tbOk; exact rfl; exact rfl; exact rfl; exact rfl; (first | omega | (dsimp only; omega)); (constructor <;> omega))
          | (apply g_cat; exact rfl; exact rfl; exact rfl; (first | omega | (simp; done) | (simp; omega)))
          | (apply g_cmp Tryz.tbOk; exact rfl; exact rfl; exact rfl; exact rfl; exact rfl; intro c hc; first | (have hb := BD.yes hc (by omega); subst hb; clear hc) | (have hb := BD.no hc (by omega); subst hb; clear hc) | skip)
          | (apply g_cmpS Tryz.tbOk; exact rfl; exact rfl; exact rfl; exact rfl; intro c hc)
          | (apply g_eqW Tryz.tbOk Tryz.elOk; exact rfl; exact rfl; exact rfl; exact rfl; exact rfl; exact rfl; intro c hc)
          | (apply g_conv Tryz.tbOk; exact rfl; exact rfl; exact rfl; exact rfl; exact rfl; (constructor <;> omega))
          | (apply x_set Tryz.tbOk Tryz.elOk Tryz.xtOk; exact rfl; exact rfl)
          | (apply x_grow Tryz.tbOk Tryz.elOk Tryz.xtOk; exact rfl; exact rfl)
          | (apply x_store Tryz.tbOk Tryz.elOk Tryz.xtOk; exact rfl)
          | (apply x_setN Tryz.tbOk Tryz.elOk Tryz.xtOk; exact rfl)
          | (apply g_ixs Tryz.tbOk; exact rfl; exact rfl; exact rfl; exact rfl; exact rfl; omega)
          | (apply g_ips Tryz.tbOk; exact rfl; exact rfl; exact rfl; exact rfl; exact rfl; exact rfl; exact rfl; (first | omega | (dsimp only; omega)))
          | (apply g_sls Tryz.tbOk; exact rfl; exact rfl; exact rfl; exact rfl; exact rfl; exact rfl; omega)
          | (apply g_ixg Tryz.tbOk; exact rfl; exact rfl; exact rfl; exact rfl; exact rfl; exact rfl; (first | omega | (dsimp only; omega))))
      | refine ops_skip rfl rfl ?_
      | refine ops_nil ?_
      | refine then_n ?_
      | refine f_condT rfl ?_
      | refine f_condF rfl ?_
      | refine f_block ?_
      | refine f_exit ?_
      | refine f_ret ?_
      | refine f_skip ?_
      | refine DrK.nil rfl ?_
      | refine d_skip rfl rfl ?_
      | refine d_skipN rfl ?_
      | (apply d_callR; exact rfl; exact rfl; exact rfl; exact Tryz.fnOk rfl; exact fun g => RetTo.frameR (there_spec G l (.slc 1 0 l.length (.opn 0 0)) next) [0, 1] rfl (by ((repeat' (first | exact trivial | exact fits_enc (by assumption) (fun _ => rfl) | exact fits_enc (by assumption) (fun h => h) | exact ⟨_, rfl, fun _ => rfl⟩ | exact ⟨_, rfl, fun h => h⟩ | refine ⟨?_, ?_⟩)); (first | done | fail))) (by ((repeat' (first | exact trivial | assumption | exact AVs.le_mono (Nat.le_of_ble_eq_true rfl) _ (by assumption) | exact Nat.le_of_ble_eq_true rfl | exact Enc.Gr.le (by assumption) _ _ | exact gr_le (by assumption) _ | exact InSl.le (by assumption) _ | refine ⟨?_, ?_⟩)); (first | done | fail))) (by ((repeat' (first | exact trivial | assumption | exact AVs.le_mono (Nat.le_of_ble_eq_true rfl) _ (by assumption) | exact Nat.le_of_ble_eq_true rfl | exact Enc.Gr.le (by assumption) _ _ | exact gr_le (by assumption) _ | exact InSl.le (by assumption) _ | refine ⟨?_, ?_⟩)); (first | done | fail))) rfl rfl (List.append_nil _))
      | (apply d_any; exact rfl; exact rfl; exact st_sum Tryz.tbOk rfl rfl rfl rfl (by constructor <;> omega))
      | (refine d_bd rfl rfl (st_cmp Tryz.tbOk rfl rfl rfl rfl) ?_; intro c hc; first | (have hb := BD.yes hc (by omega); subst hb; clear hc) | (have hb := BD.no hc (by omega); subst hb; clear hc) | skip)
      | (refine d_bd rfl rfl (st_cmpS Tryz.tbOk rfl rfl rfl) ?_; intro c hc)
      | (refine d_bd rfl rfl (st_eqW Tryz.tbOk Tryz.elOk rfl rfl rfl rfl rfl) ?_; intro c hc)
      | (apply d_set Tryz.tbOk Tryz.elOk Tryz.xtOk; exact rfl; exact rfl; exact rfl)
      | (apply d_ips Tryz.tbOk; exact rfl; exact rfl; exact rfl; exact rfl; exact rfl; exact rfl; exact rfl; exact rfl; (first | omega | (dsimp only; omega)))
      | (apply d_ixg Tryz.tbOk; exact rfl; exact rfl; exact rfl; exact rfl; exact rfl; exact rfl; exact rfl; (first | omega | (dsimp only; omega)))
      | (apply d_grow Tryz.tbOk Tryz.elOk Tryz.xtOk; exact rfl; exact rfl; exact rfl)
      | (apply d_store Tryz.tbOk Tryz.elOk Tryz.xtOk; exact rfl; exact rfl)
      | refine then_x ?_
      | refine then_r ?_
      | refine blk_n ?_
      | refine blk_eq rfl ?_
      | refine blk_ne rfl ?_
      | refine blk_r ?_
      | refine loop_x ?_
      | refine loop_r ?_
      | refine cut_x ?_
      | refine cut_r ?_
      | refine body_ret rfl rfl ?_
      | refine body_end rfl rfl ?_
      | exact (rfl : AEnd.ret _ = AEnd.ret _)
      | exact ⟨rfl, _, rfl⟩
      | exact ⟨rfl, HFin.refl _⟩
      | (rename BD _ _ => hbd; cases hbd)
      | (rename ¬ _ = _ => hq; exact absurd rfl hq))
    refine f_loopV (fun x : Nat × List Int => [(1, .fn (.func f) [] caps), (4, outV 3 x.2), (13, .slc 1 0 l.length (.opn 0 0)), (14, .int .i64 l.length), (15, .int .i64 x.1)])
      (fun x => [cObj (.slc 1 0 l.length (.opn 0 0)) next, aObj l, .dead] ++ outO x.2) (fun x => x.1 ≤ l.length ∧ x.2 = idsOf p (l.take x.1)) (fun x => l.length - x.1) (0, []) ⟨by simp, by simp [idsOf]⟩ ⟨[0, 1, 2], rfl, (by ((repeat' (first | exact trivial | exact rfl | assumption | exact objv_enc (by assumption) rfl | exact objv_gr (by assumption) rfl | exact get_fn rfl (by assumption) rfl | exact InSl.getr (by assumption) rfl | exact InSl.le (by assumption) _ | exact AVs.le_mono (Nat.le_of_ble_eq_true rfl) _ (by assumption) | exact Nat.le_of_ble_eq_true rfl | exact Enc.Gr.le (by assumption) _ _ | exact gr_le (by assumption) _ | refine ⟨?_, ?_⟩)); (first | done | fail))), rfl, rfl, (by ((repeat' (first | exact trivial | exact rfl | assumption | exact objv_enc (by assumption) rfl | exact objv_gr (by assumption) rfl | exact get_fn rfl (by assumption) rfl | exact InSl.getr (by assumption) rfl | exact InSl.le (by assumption) _ | exact AVs.le_mono (Nat.le_of_ble_eq_true rfl) _ (by assumption) | exact Nat.le_of_ble_eq_true rfl | exact Enc.Gr.le (by assumption) _ _ | exact gr_le (by assumption) _ | refine ⟨?_, ?_⟩)); (first | done | fail)))⟩ ?_
    rintro ⟨k, is⟩ ⟨hk, his⟩
    dsimp only at hk his
    have hle := idsOf_le p l k
    rw [← his] at hle
    rcases Nat.lt_or_ge k l.length with hlt | hge
    · obtain ⟨x, hx⟩ : ∃ x, l[k]? = some x := ⟨_, List.getElem?_eq_getElem hlt⟩
      have hs := idsOf_s (p := p) hx
      rw [← his] at hs
      have hpx := hp x (List.mem_of_getElem? hx)
      cases is with
      | nil =>
        repeat' (first
          | refine f_seq ?_
          | (refine f_regionL Tryz.lv24 ?_; show opsWP _ _ _ _ _ _ _ _ _)
          | (refine f_drawL Tryz.lv24 Tryz.mixed ?_; show DrK _ _ _ _ _ _ _ _ _ _)
          | (refine ops_go rfl ?_; first
              | (apply g_load Tryz.tbOk; exact rfl; exact rfl; exact rfl; exact rfl; exact cnE.load_row hx rfl rfl (by dsimp only; omega))
              | (apply g_retB; exact rfl; exact rfl; exact hf; exact hpx [_]; intro c hc)
              | (apply g_appN Tryz.tbOk; exact rfl; exact rfl; exact rfl; exact rfl; exact rfl; decide; (constructor <;> decide))
              | (apply g_sum Tryz.tbOk; exact rfl; exact rfl; exact rfl; exact rfl; exact rfl; (constructor <;> omega))
              | (apply g_rem Tryz.tbOk; exact rfl; exact rfl; exact rfl; exact rfl; (first | omega | (dsimp only; omega)))
              | (apply g_quo Tryz.tbOk; exact rfl; exact rfl; exact rfl; exact rfl; (first | omega | (dsimp only; omega)); (constructor <;> omega))
              | (apply g_cat; exact rfl; exact rfl; exact rfl; (first | omega | (simp; done) | (simp; omega)))
              | (apply g_cmp Tryz.tbOk; exact rfl; exact rfl; exact rfl; exact rfl; exact rfl; intro c hc; first | (have hb := BD.yes hc (by omega); subst hb; clear hc) | (have hb := BD.no hc (by omega); subst hb; clear hc) | skip)
              | (apply g_cmpS Tryz.tbOk; exact rfl; exact rfl; exact rfl; exact rfl; intro c hc)
              | (apply g_eqW Tryz.tbOk Tryz.elOk; exact rfl; exact rfl; exact rfl; exact rfl; exact rfl; exact rfl; intro c hc)
              | (apply g_conv Tryz.tbOk; exact rfl; exact rfl; exact rfl; exact rfl; exact rfl; (constructor <;> omega))
              | (apply x_set Tryz.tbOk Tryz.elOk Tryz.xtOk; exact rfl; exact rfl)
              | (apply x_grow Tryz.tbOk Tryz.elOk Tryz.xtOk; exact rfl; exact rfl)
              | (apply x_store Tryz.tbOk Tryz.elOk Tryz.xtOk; exact rfl)
              | (apply x_setN Tryz.tbOk Tryz.elOk Tryz.xtOk; exact rfl)
              | (apply g_ixs Tryz.tbOk; exact rfl; exact rfl; exact rfl; exact rfl; exact rfl; omega)
              | (apply g_ips Tryz.tbOk; exact rfl; exact rfl; exact rfl; exact rfl; exact rfl; exact rfl; exact rfl; (first | omega | (dsimp only; omega)))
              | (apply g_sls Tryz.tbOk; exact rfl; exact rfl; exact rfl; exact rfl; exact rfl; exact rfl; omega)
              | (apply g_ixg Tryz.tbOk; exact rfl; exact rfl; exact rfl; exact rfl; exact rfl; exact rfl; (first | omega | (dsimp only; omega))))
          | refine ops_skip rfl rfl ?_
          | refine ops_nil ?_
          | refine then_n ?_
          | refine f_condT rfl ?_
          | refine f_condF rfl ?_
          | refine f_block ?_
          | refine f_exit ?_
          | refine f_ret ?_
          | refine f_skip ?_
          | refine DrK.nil rfl ?_
          | refine d_skip rfl rfl ?_
          | refine d_skipN rfl ?_
          | (apply d_load Tryz.tbOk; exact rfl; exact rfl; exact rfl; exact rfl; exact rfl; exact cnE.load_row hx rfl rfl (by dsimp only; omega))
          | (apply d_any; exact rfl; exact rfl; exact st_sum Tryz.tbOk rfl rfl rfl rfl (by constructor <;> omega))
          | (refine d_bd rfl rfl (st_cmp Tryz.tbOk rfl rfl rfl rfl) ?_; intro c hc; first | (have hb := BD.yes hc (by omega); subst hb; clear hc) | (have hb := BD.no hc (by omega); subst hb; clear hc) | skip)
          | (refine d_bd rfl rfl (st_cmpS Tryz.tbOk rfl rfl rfl) ?_; intro c hc)
          | (refine d_bd rfl rfl (st_eqW Tryz.tbOk Tryz.elOk rfl rfl rfl rfl rfl) ?_; intro c hc)
          | (apply d_set Tryz.tbOk Tryz.elOk Tryz.xtOk; exact rfl; exact rfl; exact rfl)
          | (apply d_ips Tryz.tbOk; exact rfl; exact rfl; exact rfl; exact rfl; exact rfl; exact rfl; exact rfl; exact rfl; (first | omega | (dsimp only; omega)))
          | (apply d_ixg Tryz.tbOk; exact rfl; exact rfl; exact rfl; exact rfl; exact rfl; exact rfl; exact rfl; (first | omega | (dsimp only; omega)))
          | (apply d_grow Tryz.tbOk Tryz.elOk Tryz.xtOk; exact rfl; exact rfl; exact rfl)
          | (apply d_store Tryz.tbOk Tryz.elOk Tryz.xtOk; exact rfl; exact rfl)
          | refine then_x ?_
          | refine then_r ?_
          | refine blk_n ?_
          | refine blk_eq rfl ?_
          | refine blk_ne rfl ?_
          | refine blk_r ?_
          | refine loop_x ?_
          | refine loop_r ?_
          | refine cut_x ?_
          | refine cut_r ?_
          | refine body_ret rfl rfl ?_
          | refine body_end rfl rfl ?_
          | exact (rfl : AEnd.ret _ = AEnd.ret _)
          | exact ⟨rfl, _, rfl⟩
          | exact ⟨rfl, HFin.refl _⟩
          | (rename BD _ _ => hbd; cases hbd)
          | (rename ¬ _ = _ => hq; exact absurd rfl hq))
        · rename_i q
          exact loop_v (k + 1, [x.id]) ⟨by dsimp only; omega, by dsimp only; rw [hs, if_pos q]; rfl⟩ (by dsimp only; omega) ⟨[0, 1, 2, 5], rfl, (by ((repeat' (first | exact trivial | exact rfl | assumption | exact objv_enc (by assumption) rfl | exact objv_gr (by assumption) rfl | exact get_fn rfl (by assumption) rfl | exact InSl.getr (by assumption) rfl | exact InSl.le (by assumption) _ | exact AVs.le_mono (Nat.le_of_ble_eq_true rfl) _ (by assumption) | exact Nat.le_of_ble_eq_true rfl | exact Enc.Gr.le (by assumption) _ _ | exact gr_le (by assumption) _ | refine ⟨?_, ?_⟩)); (first | done | fail))), rfl, rfl, (by ((repeat' (first | exact trivial | exact rfl | assumption | exact objv_enc (by assumption) rfl | exact objv_gr (by assumption) rfl | exact get_fn rfl (by assumption) rfl | exact InSl.getr (by assumption) rfl | exact InSl.le (by assumption) _ | exact AVs.le_mono (Nat.le_of_ble_eq_true rfl) _ (by assumption) | exact Nat.le_of_ble_eq_true rfl | exact Enc.Gr.le (by assumption) _ _ | exact gr_le (by assumption) _ | refine ⟨?_, ?_⟩)); (first | done | fail)))⟩
        · rename_i q
          exact loop_v (k + 1, []) ⟨by dsimp only; omega, by dsimp only; rw [hs, if_neg q]; rfl⟩ (by dsimp only; omega) ⟨[0, 1, 2], rfl, (by ((repeat' (first | exact trivial | exact rfl | assumption | exact objv_enc (by assumption) rfl | exact objv_gr (by assumption) rfl | exact get_fn rfl (by assumption) rfl | exact InSl.getr (by assumption) rfl | exact InSl.le (by assumption) _ | exact AVs.le_mono (Nat.le_of_ble_eq_true rfl) _ (by assumption) | exact Nat.le_of_ble_eq_true rfl | exact Enc.Gr.le (by assumption) _ _ | exact gr_le (by assumption) _ | refine ⟨?_, ?_⟩)); (first | done | fail))), rfl, rfl, (by ((repeat' (first | exact trivial | exact rfl | assumption | exact objv_enc (by assumption) rfl | exact objv_gr (by assumption) rfl | exact get_fn rfl (by assumption) rfl | exact InSl.getr (by assumption) rfl | exact InSl.le (by assumption) _ | exact AVs.le_mono (Nat.le_of_ble_eq_true rfl) _ (by assumption) | exact Nat.le_of_ble_eq_true rfl | exact Enc.Gr.le (by assumption) _ _ | exact gr_le (by assumption) _ | refine ⟨?_, ?_⟩)); (first | done | fail)))⟩
      | cons a t =>
        simp only [List.length_cons] at hle
        repeat' (first
          | refine f_seq ?_
          | (refine f_regionL Tryz.lv24 ?_; show opsWP _ _ _ _ _ _ _ _ _)
          | (refine f_drawL Tryz.lv24 Tryz.mixed ?_; show DrK _ _ _ _ _ _ _ _ _ _)
          | (refine ops_go rfl ?_; first
              | (apply g_load Tryz.tbOk; exact rfl; exact rfl; exact rfl; exact rfl; exact cnE.load_row hx rfl rfl (by dsimp only; omega))
              | (apply g_retB; exact rfl; exact rfl; exact hf; exact hpx [_, _]; intro c hc)
              | (apply g_app1 (a :: (t ++ [x.id])).length Tryz.tbOk; exact rfl; exact rfl; exact rfl; exact rfl; exact rfl; exact rfl; exact rfl; (rw [intE.of_length]); (simp only [List.length_cons]; constructor <;> omega); exact (intE.of_append (a :: t) [x.id]).symm; simp)
              | (apply g_sum Tryz.tbOk; exact rfl; exact rfl; exact rfl; exact rfl; exact rfl; (constructor <;> omega))
              | (apply g_rem Tryz.tbOk; exact rfl; exact rfl; exact rfl; exact rfl; (first | omega | (dsimp only; omega)))
              | (apply g_quo Tryz.tbOk; exact rfl; exact rfl; exact rfl; exact rfl; (first | omega | (dsimp only; omega)); (constructor <;> omega))
              | (apply g_cat; exact rfl; exact rfl; exact rfl; (first | omega | (simp; done) | (simp; omega)))
              | (apply g_cmp Tryz.tbOk; exact rfl; exact rfl; exact rfl; exact rfl; exact rfl; intro c hc; first | (have hb := BD.yes hc (by omega); subst hb; clear hc) | (have hb := BD.no hc (by omega); subst hb; clear hc) | skip)
              | (apply g_cmpS Tryz.tbOk; exact rfl; exact rfl; exact rfl; exact rfl; intro c hc)
              | (apply g_eqW Tryz.tbOk Tryz.elOk; exact rfl; exact rfl; exact rfl; exact rfl; exact rfl; exact rfl; intro c hc)
              | (apply g_conv Tryz.tbOk; exact rfl; exact rfl; exact rfl; exact rfl; exact rfl; (constructor <;> omega))
              | (apply x_set Tryz.tbOk Tryz.elOk Tryz.xtOk; exact rfl; exact rfl)
              | (apply x_grow Tryz.tbOk Tryz.elOk Tryz.xtOk; exact rfl; exact rfl)
              | (apply x_store Tryz.tbOk Tryz.elOk Tryz.xtOk; exact rfl)
              | (apply x_setN Tryz.tbOk Tryz.elOk Tryz.xtOk; exact rfl)
              | (apply g_ixs Tryz.tbOk; exact rfl; exact rfl; exact rfl; exact rfl; exact rfl; omega)
              | (apply g_ips Tryz.tbOk; exact rfl; exact rfl; exact rfl; exact rfl; exact rfl; exact rfl; exact rfl; (first | omega | (dsimp only; omega)))
              | (apply g_sls Tryz.tbOk; exact rfl; exact rfl; exact rfl; exact rfl; exact rfl; exact rfl; omega)
              | (apply g_ixg Tryz.tbOk; exact rfl; exact rfl; exact rfl; exact rfl; exact rfl; exact rfl; (first | omega | (dsimp only; omega))))
          | refine ops_skip rfl rfl ?_
          | refine ops_nil ?_
          | refine then_n ?_
          | refine f_condT rfl ?_
          | refine f_condF rfl ?_
          | refine f_block ?_
          | refine f_exit ?_
          | refine f_ret ?_
          | refine f_skip ?_
          | refine DrK.nil rfl ?_
          | refine d_skip rfl rfl ?_
          | refine d_skipN rfl ?_
          | (apply d_load Tryz.tbOk; exact rfl; exact rfl; exact rfl; exact rfl; exact rfl; exact cnE.load_row hx rfl rfl (by dsimp only; omega))
          | (apply d_any; exact rfl; exact rfl; exact st_sum Tryz.tbOk rfl rfl rfl rfl (by constructor <;> omega))
          | (refine d_bd rfl rfl (st_cmp Tryz.tbOk rfl rfl rfl rfl) ?_; intro c hc; first | (have hb := BD.yes hc (by omega); subst hb; clear hc) | (have hb := BD.no hc (by omega); subst hb; clear hc) | skip)
          | (refine d_bd rfl rfl (st_cmpS Tryz.tbOk rfl rfl rfl) ?_; intro c hc)
          | (refine d_bd rfl rfl (st_eqW Tryz.tbOk Tryz.elOk rfl rfl rfl rfl rfl) ?_; intro c hc)
          | (apply d_set Tryz.tbOk Tryz.elOk Tryz.xtOk; exact rfl; exact rfl; exact rfl)
          | (apply d_ips Tryz.tbOk; exact rfl; exact rfl; exact rfl; exact rfl; exact rfl; exact rfl; exact rfl; exact rfl; (first | omega | (dsimp only; omega)))
          | (apply d_ixg Tryz.tbOk; exact rfl; exact rfl; exact rfl; exact rfl; exact rfl; exact rfl; exact rfl; (first | omega | (dsimp only; omega)))
          | (apply d_grow Tryz.tbOk Tryz.elOk Tryz.xtOk; exact rfl; exact rfl; exact rfl)
          | (apply d_store Tryz.tbOk Tryz.elOk Tryz.xtOk; exact rfl; exact rfl)
          | refine then_x ?_
          | refine then_r ?_
          | refine blk_n ?_
          | refine blk_eq rfl ?_
          | refine blk_ne rfl ?_
          | refine blk_r ?_
          | refine loop_x ?_
          | refine loop_r ?_
          | refine cut_x ?_
          | refine cut_r ?_
          | refine body_ret rfl rfl ?_
          | refine body_end rfl rfl ?_
          | exact (rfl : AEnd.ret _ = AEnd.ret _)
          | exact ⟨rfl, _, rfl⟩
          | exact ⟨rfl, HFin.refl _⟩
          | (rename BD _ _ => hbd; cases hbd)
          | (rename ¬ _ = _ => hq; exact absurd rfl hq))
        · rename_i q
          exact loop_v (k + 1, a :: (t ++ [x.id])) ⟨by dsimp only; omega, by dsimp only; rw [hs, if_pos q]; rfl⟩ (by dsimp only; omega) ⟨[0, 1, 2, 6], rfl, (by ((repeat' (first | exact trivial | exact rfl | assumption | exact objv_enc (by assumption) rfl | exact objv_gr (by assumption) rfl | exact get_fn rfl (by assumption) rfl | exact InSl.getr (by assumption) rfl | exact InSl.le (by assumption) _ | exact AVs.le_mono (Nat.le_of_ble_eq_true rfl) _ (by assumption) | exact Nat.le_of_ble_eq_true rfl | exact Enc.Gr.le (by assumption) _ _ | exact gr_le (by assumption) _ | refine ⟨?_, ?_⟩)); (first | done | fail))), rfl, rfl, (by ((repeat' (first | exact trivial | exact rfl | assumption | exact objv_enc (by assumption) rfl | exact objv_gr (by assumption) rfl | exact get_fn rfl (by assumption) rfl | exact InSl.getr (by assumption) rfl | exact InSl.le (by assumption) _ | exact AVs.le_mono (Nat.le_of_ble_eq_true rfl) _ (by assumption) | exact Nat.le_of_ble_eq_true rfl | exact Enc.Gr.le (by assumption) _ _ | exact gr_le (by assumption) _ | refine ⟨?_, ?_⟩)); (first | done | fail)))⟩
        · rename_i q
          exact loop_v (k + 1, a :: t) ⟨by dsimp only; omega, by dsimp only; rw [hs, if_neg q, List.append_nil]⟩ (by dsimp only; omega) ⟨[0, 1, 2, 3], rfl, (by ((repeat' (first | exact trivial | exact rfl | assumption | exact objv_enc (by assumption) rfl | exact objv_gr (by assumption) rfl | exact get_fn rfl (by assumption) rfl | exact InSl.getr (by assumption) rfl | exact InSl.le (by assumption) _ | exact AVs.le_mono (Nat.le_of_ble_eq_true rfl) _ (by assumption) | exact Nat.le_of_ble_eq_true rfl | exact Enc.Gr.le (by assumption) _ _ | exact gr_le (by assumption) _ | refine ⟨?_, ?_⟩)); (first | done | fail))), rfl, rfl, (by ((repeat' (first | exact trivial | exact rfl | assumption | exact objv_enc (by assumption) rfl | exact objv_gr (by assumption) rfl | exact get_fn rfl (by assumption) rfl | exact InSl.getr (by assumption) rfl | exact InSl.le (by assumption) _ | exact AVs.le_mono (Nat.le_of_ble_eq_true rfl) _ (by assumption) | exact Nat.le_of_ble_eq_true rfl | exact Enc.Gr.le (by assumption) _ _ | exact gr_le (by assumption) _ | refine ⟨?_, ?_⟩)); (first | done | fail)))⟩
    · obtain rfl : k = l.length := by omega
      rw [List.take_length] at his
      subst his
      cases hi : idsOf p l with
      | nil =>
        repeat' (first
          | refine f_seq ?_
          | (refine f_regionL Tryz.lv24 ?_; show opsWP _ _ _ _ _ _ _ _ _)
          | (refine f_drawL Tryz.lv24 Tryz.mixed ?_; show DrK _ _ _ _ _ _ _ _ _ _)
          | (refine ops_go rfl ?_; first
              | (apply g_callP; exact rfl; exact rfl; exact Tryz.fnOk rfl; exact clip0_spec G)
              | (apply g_sum Tryz.tbOk; exact rfl; exact rfl; exact rfl; exact rfl; exact rfl; (constructor <;> omega))
              | (apply g_rem Tryz.tbOk; exact rfl; exact rfl; exact rfl; exact rfl; (first | omega | (dsimp only; omega)))
              | (apply g_quo Tryz.tbOk; exact rfl; exact rfl; exact rfl; exact rfl; (first | omega | (dsimp only; omega)); (constructor <;> omega))
              | (apply g_cat; exact rfl; exact rfl; exact rfl; (first | omega | (simp; done) | (simp; omega)))
              | (apply g_cmp Tryz.tbOk; exact rfl; exact rfl; exact rfl; exact rfl; exact rfl; intro c hc; first | (have hb := BD.yes hc (by omega); subst hb; clear hc) | (have hb := BD.no hc (by omega); subst hb; clear hc) | skip)
              | (apply g_cmpS Tryz.tbOk; exact rfl; exact rfl; exact rfl; exact rfl; intro c hc)
              | (apply g_eqW Tryz.tbOk Tryz.elOk; exact rfl; exact rfl; exact rfl; exact rfl; exact rfl; exact rfl; intro c hc)
              | (apply g_conv Tryz.tbOk; exact rfl; exact rfl; exact rfl; exact rfl; exact rfl; (constructor <;> omega))
              | (apply x_set Tryz.tbOk Tryz.elOk Tryz.xtOk; exact rfl; exact rfl)
              | (apply x_grow Tryz.tbOk Tryz.elOk Tryz.xtOk; exact rfl; exact rfl)
              | (apply x_store Tryz.tbOk Tryz.elOk Tryz.xtOk; exact rfl)
              | (apply x_setN Tryz.tbOk Tryz.elOk Tryz.xtOk; exact rfl)
              | (apply g_ixs Tryz.tbOk; exact rfl; exact rfl; exact rfl; exact rfl; exact rfl; omega)
              | (apply g_ips Tryz.tbOk; exact rfl; exact rfl; exact rfl; exact rfl; exact rfl; exact rfl; exact rfl; (first | omega | (dsimp only; omega)))
              | (apply g_sls Tryz.tbOk; exact rfl; exact rfl; exact rfl; exact rfl; exact rfl; exact rfl; omega)
              | (apply g_ixg Tryz.tbOk; exact rfl; exact rfl; exact rfl; exact rfl; exact rfl; exact rfl; (first | omega | (dsimp only; omega))))
          | refine ops_skip rfl rfl ?_
          | refine ops_nil ?_
          | refine then_n ?_
          | refine f_condT rfl ?_
          | refine f_condF rfl ?_
          | refine f_block ?_
          | refine f_exit ?_
          | refine f_ret ?_
          | refine f_skip ?_
          | refine DrK.nil rfl ?_
          | refine d_skip rfl rfl ?_
          | refine d_skipN rfl ?_
          | (apply d_callP; exact rfl; exact rfl; exact rfl; exact Tryz.fnOk rfl; exact clip0_spec G)
          | (apply d_any; exact rfl; exact rfl; exact st_sum Tryz.tbOk rfl rfl rfl rfl (by constructor <;> omega))
          | (refine d_bd rfl rfl (st_cmp Tryz.tbOk rfl rfl rfl rfl) ?_; intro c hc; first | (have hb := BD.yes hc (by omega); subst hb; clear hc) | (have hb := BD.no hc (by omega); subst hb; clear hc) | skip)
          | (refine d_bd rfl rfl (st_cmpS Tryz.tbOk rfl rfl rfl) ?_; intro c hc)
          | (refine d_bd rfl rfl (st_eqW Tryz.tbOk Tryz.elOk rfl rfl rfl rfl rfl) ?_; intro c hc)
          | (apply d_set Tryz.tbOk Tryz.elOk Tryz.xtOk; exact rfl; exact rfl; exact rfl)
          | (apply d_ips Tryz.tbOk; exact rfl; exact rfl; exact rfl; exact rfl; exact rfl; exact rfl; exact rfl; exact rfl; (first | omega | (dsimp only; omega)))
          | (apply d_ixg Tryz.tbOk; exact rfl; exact rfl; exact rfl; exact rfl; exact rfl; exact rfl; exact rfl; (first | omega | (dsimp only; omega)))
          | (apply d_grow Tryz.tbOk Tryz.elOk Tryz.xtOk; exact rfl; exact rfl; exact rfl)
          | (apply d_store Tryz.tbOk Tryz.elOk Tryz.xtOk; exact rfl; exact rfl)
          | refine then_x ?_
          | refine then_r ?_
          | refine blk_n ?_
          | refine blk_eq rfl ?_
          | refine blk_ne rfl ?_
          | refine blk_r ?_
          | refine loop_x ?_
          | refine loop_r ?_
          | refine cut_x ?_
          | refine cut_r ?_
          | refine body_ret rfl rfl ?_
          | refine body_end rfl rfl ?_
          | exact (rfl : AEnd.ret _ = AEnd.ret _)
          | exact ⟨rfl, _, rfl⟩
          | exact ⟨rfl, HFin.refl _⟩
          | (rename BD _ _ => hbd; cases hbd)
          | (rename ¬ _ = _ => hq; exact absurd rfl hq))
      | cons a t =>
        repeat' (first
          | refine f_seq ?_
          | (refine f_regionL Tryz.lv24 ?_; show opsWP _ _ _ _ _ _ _ _ _)
          | (refine f_drawL Tryz.lv24 Tryz.mixed ?_; show DrK _ _ _ _ _ _ _ _ _ _)
          | (refine ops_go rfl ?_; first
              | (apply g_ret; exact rfl; exact rfl; exact Tryz.fnOk rfl; exact RetTo.frameR (clip_spec G (a :: t) (by simp)) [3] rfl (by ((repeat' (first | exact trivial | exact fits_enc (by assumption) (fun _ => rfl) | exact fits_enc (by assumption) (fun h => h) | exact ⟨_, rfl, fun _ => rfl⟩ | exact ⟨_, rfl, fun h => h⟩ | refine ⟨?_, ?_⟩)); (first | done | fail))) (by ((repeat' (first | exact trivial | assumption | exact AVs.le_mono (Nat.le_of_ble_eq_true rfl) _ (by assumption) | exact Nat.le_of_ble_eq_true rfl | exact Enc.Gr.le (by assumption) _ _ | exact gr_le (by assumption) _ | exact InSl.le (by assumption) _ | refine ⟨?_, ?_⟩)); (first | done | fail))) (by ((repeat' (first | exact trivial | assumption | exact AVs.le_mono (Nat.le_of_ble_eq_true rfl) _ (by assumption) | exact Nat.le_of_ble_eq_true rfl | exact Enc.Gr.le (by assumption) _ _ | exact gr_le (by assumption) _ | exact InSl.le (by assumption) _ | refine ⟨?_, ?_⟩)); (first | done | fail))) rfl rfl rfl)
              | (apply g_sum Tryz.tbOk; exact rfl; exact rfl; exact rfl; exact rfl; exact rfl; (constructor <;> omega))
              | (apply g_rem Tryz.tbOk; exact rfl; exact rfl; exact rfl; exact rfl; (first | omega | (dsimp only; omega)))
              | (apply g_quo Tryz.tbOk; exact rfl; exact rfl; exact rfl; exact rfl; (first | omega | (dsimp only; omega)); (constructor <;> omega))
              | (apply g_cat; exact rfl; exact rfl; exact rfl; (first | omega | (simp; done) | (simp; omega)))
              | (apply g_cmp Tryz.tbOk; exact rfl; exact rfl; exact rfl; exact rfl; exact rfl; intro c hc; first | (have hb := BD.yes hc (by omega); subst hb; clear hc) | (have hb := BD.no hc (by omega); subst hb; clear hc) | skip)
              | (apply g_cmpS Tryz.tbOk; exact rfl; exact rfl; exact rfl; exact rfl; intro c hc)
              | (apply g_eqW Tryz.tbOk Tryz.elOk; exact rfl; exact rfl; exact rfl; exact rfl; exact rfl; exact rfl; intro c hc)
              | (apply g_conv Tryz.tbOk; exact rfl; exact rfl; exact rfl; exact rfl; exact rfl; (constructor <;> omega))
              | (apply x_set Tryz.tbOk Tryz.elOk Tryz.xtOk; exact rfl; exact rfl)
              | (apply x_grow Tryz.tbOk Tryz.elOk Tryz.xtOk; exact rfl; exact rfl)
              | (apply x_store Tryz.tbOk Tryz.elOk Tryz.xtOk; exact rfl)
              | (apply x_setN Tryz.tbOk Tryz.elOk Tryz.xtOk; exact rfl)
              | (apply g_ixs Tryz.tbOk; exact rfl; exact rfl; exact rfl; exact rfl; exact rfl; omega)
              | (apply g_ips Tryz.tbOk; exact rfl; exact rfl; exact rfl; exact rfl; exact rfl; exact rfl; exact rfl; (first | omega | (dsimp only; omega)))
              | (apply g_sls Tryz.tbOk; exact rfl; exact rfl; exact rfl; exact rfl; exact rfl; exact rfl; omega)
              | (apply g_ixg Tryz.tbOk; exact rfl; exact rfl; exact rfl; exact rfl; exact rfl; exact rfl; (first | omega | (dsimp only; omega))))
          | refine ops_skip rfl rfl ?_
          | refine ops_nil ?_
          | refine then_n ?_
          | refine f_condT rfl ?_
          | refine f_condF rfl ?_
          | refine f_block ?_
          | refine f_exit ?_
          | refine f_ret ?_
          | refine f_skip ?_
          | refine DrK.nil rfl ?_
          | refine d_skip rfl rfl ?_
          | refine d_skipN rfl ?_
          | (apply d_callR; exact rfl; exact rfl; exact rfl; exact Tryz.fnOk rfl; exact fun g => RetTo.frameR (clip_spec G (a :: t) (by simp)) [3] rfl (by ((repeat' (first | exact trivial | exact fits_enc (by assumption) (fun _ => rfl) | exact fits_enc (by assumption) (fun h => h) | exact ⟨_, rfl, fun _ => rfl⟩ | exact ⟨_, rfl, fun h => h⟩ | refine ⟨?_, ?_⟩)); (first | done | fail))) (by ((repeat' (first | exact trivial | assumption | exact AVs.le_mono (Nat.le_of_ble_eq_true rfl) _ (by assumption) | exact Nat.le_of_ble_eq_true rfl | exact Enc.Gr.le (by assumption) _ _ | exact gr_le (by assumption) _ | exact InSl.le (by assumption) _ | refine ⟨?_, ?_⟩)); (first | done | fail))) (by ((repeat' (first | exact trivial | assumption | exact AVs.le_mono (Nat.le_of_ble_eq_true rfl) _ (by assumption) | exact Nat.le_of_ble_eq_true rfl | exact Enc.Gr.le (by assumption) _ _ | exact gr_le (by assumption) _ | exact InSl.le (by assumption) _ | refine ⟨?_, ?_⟩)); (first | done | fail))) rfl rfl (List.append_nil _))
          | (apply d_any; exact rfl; exact rfl; exact st_sum Tryz.tbOk rfl rfl rfl rfl (by constructor <;> omega))
          | (refine d_bd rfl rfl (st_cmp Tryz.tbOk rfl rfl rfl rfl) ?_; intro c hc; first | (have hb := BD.yes hc (by omega); subst hb; clear hc) | (have hb := BD.no hc (by omega); subst hb; clear hc) | skip)
          | (refine d_bd rfl rfl (st_cmpS Tryz.tbOk rfl rfl rfl) ?_; intro c hc)
          | (refine d_bd rfl rfl (st_eqW Tryz.tbOk Tryz.elOk rfl rfl rfl rfl rfl) ?_; intro c hc)
          | (apply d_set Tryz.tbOk Tryz.elOk Tryz.xtOk; exact rfl; exact rfl; exact rfl)
          | (apply d_ips Tryz.tbOk; exact rfl; exact rfl; exact rfl; exact rfl; exact rfl; exact rfl; exact rfl; exact rfl; (first | omega | (dsimp only; omega)))
          | (apply d_ixg Tryz.tbOk; exact rfl; exact rfl; exact rfl; exact rfl; exact rfl; exact rfl; exact rfl; (first | omega | (dsimp only; omega)))
          | (apply d_grow Tryz.tbOk Tryz.elOk Tryz.xtOk; exact rfl; exact rfl; exact rfl)
          | (apply d_store Tryz.tbOk Tryz.elOk Tryz.xtOk; exact rfl; exact rfl)
          | refine then_x ?_
          | refine then_r ?_
          | refine blk_n ?_
          | refine blk_eq rfl ?_
          | refine blk_ne rfl ?_
          | refine blk_r ?_
          | refine loop_x ?_
          | refine loop_r ?_
          | refine cut_x ?_
          | refine cut_r ?_
          | refine body_ret rfl rfl ?_
          | refine body_end rfl rfl ?_
          | exact (rfl : AEnd.ret _ = AEnd.ret _)
          | exact ⟨rfl, _, rfl⟩
          | exact ⟨rfl, HFin.refl _⟩
          | (rename BD _ _ => hbd; cases hbd)
          | (rename ¬ _ = _ => hq; exact absurd rfl hq))
set_option maxRecDepth 100000 in
set_option maxHeartbeats 4000000 in
theorem numbers_spec (l : List Cn) (sv : AV) (next : Int) (p : Cn → Bool) (f : FuncId) (hf : FnOk Tryz.prog f) (caps : List AV) (kc : List AV) (kt : TypeId) (hkc : AVs.gr kc = true) (hcap : AVs.le 3 caps) (hcr : ∀ s : Nat → Nat, s 2 = 2 → AVs.ren s caps = caps) (hl : l.length ≤ 1000000) (hs : slOk sv l)
    (hp : ∀ c ∈ l, ∀ g, RetTo Tryz.prog G f (c.v :: caps) ([cObj sv next, aObj l, .cells kc kt false false] ++ g) (.bool (p c)) ([cObj sv next, aObj l, .cells kc kt false false] ++ g)) :
    CallTo Tryz.prog G 24 [.ptr 0 0, .fn (.func f) [] caps] [cObj sv next, aObj l, .cells kc kt false false] (fun e h' => e = .ret (resV 3 (idsOf p l)) ∧ HFin h' ([cObj sv next, aObj l, .cells kc kt false false] ++ outO (idsOf p l))) := by
  have hgr := cnGr
  have hgi := intGr
  refine call_body Tryz.tbOk Tryz.func24 rfl Tryz.ntmps24 rfl rfl rfl ?_
  dsimp only [initF, List.length_cons, List.length_nil, Nat.zero_add]
  rcases hs with ⟨rfl, rfl⟩ | rfl
  · repeat' (first
      | (refine f_rounds (k := 1) ?_; show WP _ _ _ _ _ _ _ _)
      | refine f_seq ?_
      | (refine f_regionL Tryz.lv24 ?_; show opsWP _ _ _ _ _ _ _ _ _)
      | (refine f_drawL Tryz.lv24 Tryz.mixed ?_; show DrK _ _ _ _ _ _ _ _ _ _)
      | (refine ops_go rfl ?_; first
          | (apply g_ret; exact rfl; exact rfl; exact Tryz.fnOk rfl; exact RetTo.frameR (there_spec G [] .nils next) [0, 1] rfl (by ((repeat' (first | exact trivial | exact fits_enc (by assumption) (fun _ => rfl) | exact fits_enc (by assumption) (fun h => h) | exact ⟨_, rfl, fun _ => rfl⟩ | exact ⟨_, rfl, fun h => h⟩ | refine ⟨?_, ?_⟩)); (first | done | fail))) (by ((repeat' (first | exact trivial | assumption | exact AVs.le_mono (Nat.le_of_ble_eq_true rfl) _ (by assumption) | exact Nat.le_of_ble_eq_true rfl | exact Enc.Gr.le (by assumption) _ _ | exact gr_le (by assumption) _ | exact InSl.le (by assumption) _ | refine ⟨?_, ?_⟩)); (first | done | fail))) (by ((repeat' (first | exact trivial | assumption | exact AVs.le_mono (Nat.le_of_ble_eq_true rfl) _ (by assumption) | exact Nat.le_of_ble_eq_true rfl | exact Enc.Gr.le (by assumption) _ _ | exact gr_le (by assumption) _ | exact InSl.le (by assumption) _ | refine ⟨?_, ?_⟩)); (first | done | fail))) rfl rfl rfl)
          | (apply g_callP; exact rfl; exact rfl; exact Tryz.fnOk rfl; exact clip0_spec G)
          | (apply g_sum Tryz.tbOk; exact rfl; exact rfl; exact rfl; exact rfl; exact rfl; (constructor <;> omega))
          | (apply g_rem Tryz.tbOk; exact rfl; exact rfl; exact rfl; exact rfl; (first | omega | (dsimp only; omega)))
          | (apply g_quo Tryz.tbOk; exact rfl; exact rfl; exact rfl; exact rfl; (first | omega | (dsimp only; omega)); (constructor <;> omega))
          | (apply g_cat; exact rfl; exact rfl; exact rfl; (first | omega | (simp; done) | (simp; omega)))
          | (apply g_cmp Tryz.tbOk; exact rfl; exact rfl; exact rfl; exact rfl; exact rfl; intro c hc; first | (have hb := BD.yes hc (by omega); subst hb; clear hc) | (have hb := BD.no hc (by omega); subst hb; clear hc) | skip)
          | (apply g_cmpS Tryz.tbOk; exact rfl; exact rfl; exact rfl; exact rfl; intro c hc)
          | (apply g_eqW Tryz.tbOk Tryz.elOk; exact rfl; exact rfl; exact rfl; exact rfl; exact rfl; exact rfl; intro c hc)
          | (apply g_conv Tryz.tbOk; exact rfl; exact rfl; exact rfl; exact rfl; exact rfl; (constructor <;> omega))
          | (apply x_set Tryz.tbOk Tryz.elOk Tryz.xtOk; exact rfl; exact rfl)
          | (apply x_grow Tryz.tbOk Tryz.elOk Tryz.xtOk; exact rfl; exact rfl)
          | (apply x_store Tryz.tbOk Tryz.elOk Tryz.xtOk; exact rfl)
          | (apply x_setN Tryz.tbOk Tryz.elOk Tryz.xtOk; exact rfl)
          | (apply g_ixs Tryz.tbOk; exact rfl; exact rfl; exact rfl; exact rfl; exact rfl; omega)
          | (apply g_ips Tryz.tbOk; exact rfl; exact rfl; exact rfl; exact rfl; exact rfl; exact rfl; exact rfl; (first | omega | (dsimp only; omega)))
          | (apply g_sls Tryz.tbOk; exact rfl; exact rfl; exact rfl; exact rfl; exact rfl; exact rfl; omega)
          | (apply g_ixg Tryz.tbOk; exact rfl; exact rfl; exact rfl; exact rfl; exact rfl; exact rfl; (first | omega | (dsimp only; omega))))
      | refine ops_skip rfl rfl ?_
      | refine ops_nil ?_
      | refine then_n ?_
      | refine f_condT rfl ?_
      | refine f_condF rfl ?_
      | refine f_block ?_
      | refine f_exit ?_
      | refine f_ret ?_
      | refine f_skip ?_
      | refine DrK.nil rfl ?_
      | refine d_skip rfl rfl ?_
      | refine d_skipN rfl ?_
      | (apply d_callR; exact rfl; exact rfl; exact rfl; exact Tryz.fnOk rfl; exact fun g => RetTo.frameR (there_spec G [] .nils next) [0, 1] rfl (by ((repeat' (first | exact trivial | exact fits_enc (by assumption) (fun _ => rfl) | exact fits_enc (by assumption) (fun h => h) | exact ⟨_, rfl, fun _ => rfl⟩ | exact ⟨_, rfl, fun h => h⟩ | refine ⟨?_, ?_⟩)); (first | done | fail))) (by ((repeat' (first | exact trivial | assumption | exact AVs.le_mono (Nat.le_of_ble_eq_true rfl) _ (by assumption) | exact Nat.le_of_ble_eq_true rfl | exact Enc.Gr.le (by assumption) _ _ | exact gr_le (by assumption) _ | exact InSl.le (by assumption) _ | refine ⟨?_, ?_⟩)); (first | done | fail))) (by ((repeat' (first | exact trivial | assumption | exact AVs.le_mono (Nat.le_of_ble_eq_true rfl) _ (by assumption) | exact Nat.le_of_ble_eq_true rfl | exact Enc.Gr.le (by assumption) _ _ | exact gr_le (by assumption) _ | exact InSl.le (by assumption) _ | refine ⟨?_, ?_⟩)); (first | done | fail))) rfl rfl (List.append_nil _))
      | (apply d_callP; exact rfl; exact rfl; exact rfl; exact Tryz.fnOk rfl; exact clip0_spec G)
      | (apply d_any; exact rfl; exact rfl; exact st_sum Tryz.tbOk rfl rfl rfl rfl (by constructor <;> omega))
      | (refine d_bd rfl rfl (st_cmp Tryz.tbOk rfl rfl rfl rfl) ?_; intro c hc; first | (have hb := BD.yes hc (by omega); subst hb; clear hc) | (have hb := BD.no hc (by omega); subst hb; clear hc) | skip)
      | (refine d_bd rfl rfl (st_cmpS Tryz.tbOk rfl rfl rfl) ?_; intro c hc)
      | (refine d_bd rfl rfl (st_eqW Tryz.tbOk Tryz.elOk rfl rfl rfl rfl rfl) ?_; intro c hc)
      | (apply d_set Tryz.tbOk Tryz.elOk Tryz.xtOk; exact rfl; exact rfl; exact rfl)
      | (apply d_ips Tryz.tbOk; exact rfl; exact rfl; exact rfl; exact rfl; exact rfl; exact rfl; exact rfl; exact rfl; (first | omega | (dsimp only; omega)))
      | (apply d_ixg Tryz.tbOk; exact rfl; exact rfl; exact rfl; exact rfl; exact rfl; exact rfl; exact rfl; (first | omega | (dsimp only; omega)))
      | (apply d_grow Tryz.tbOk Tryz.elOk Tryz.xtOk; exact rfl; exact rfl; exact rfl)
      | (apply d_store Tryz.tbOk Tryz.elOk Tryz.xtOk; exact rfl; exact rfl)
      | refine then_x ?_
      | refine then_r ?_
      | refine blk_n ?_
      | refine blk_eq rfl ?_
      | refine blk_ne rfl ?_
      | refine blk_r ?_
      | refine loop_x ?_
      | refine loop_r ?_
      | refine cut_x ?_
      | refine cut_r ?_
      | refine body_ret rfl rfl ?_
      | refine body_end rfl rfl ?_
      | exact (rfl : AEnd.ret _ = AEnd.ret _)
      | exact ⟨rfl, _, rfl⟩
      | exact ⟨rfl, HFin.refl _⟩
      | (rename BD _ _ => hbd; cases hbd)
      | (rename ¬ _ = _ => hq; exact absurd rfl hq))
  · repeat' (first
      | refine f_seq ?_
      | (refine f_regionL Tryz.lv24 ?_; show opsWP _ _ _ _ _ _ _ _ _)
      | (refine f_drawL Tryz.lv24 Tryz.mixed ?_; show DrK _ _ _ _ _ _ _ _ _ _)
      | (refine ops_go rfl ?_; first
          | (apply g_ret; exact rfl; exact rfl; exact Tryz.fnOk rfl; exact RetTo.frameR (there_spec G l (.slc 1 0 l.length (.opn 0 0)) next) [0, 1] rfl (by ((repeat' (first | exact trivial | exact fits_enc (by assumption) (fun _ => rfl) | exact fits_enc (by assumption) (fun h => h) | exact ⟨_, rfl, fun _ => rfl⟩ | exact ⟨_, rfl, fun h => h⟩ | refine ⟨?_, ?_⟩)); (first | done | fail))) (by ((repeat' (first | exact trivial | assumption | exact AVs.le_mono (Nat.le_of_ble_eq_true rfl) _ (by assumption) | exact Nat.le_of_ble_eq_true rfl | exact Enc.Gr.le (by assumption) _ _ | exact gr_le (by assumption) _ | exact InSl.le (by assumption) _ | refine ⟨?_, ?_⟩)); (first | done | fail))) (by ((repeat' (first | exact trivial | assumption | exact AVs.le_mono (Nat.le_of_ble_eq_true rfl) _ (by assumption) | exact Nat.le_of_ble_eq_true rfl | exact Enc.Gr.le (by assumption) _ _ | exact gr_le (by assumption) _ | exact InSl.le (by assumption) _ | refine ⟨?_, ?_⟩)); (first | done | fail))) rfl rfl rfl)
          | (apply g_sum Tryz.tbOk; exact rfl; exact rfl; exact rfl; exact rfl; exact rfl; (constructor <;> omega))
          | (apply g_rem Tryz.tbOk; exact rfl; exact rfl; exact rfl; exact rfl; (first | omega | (dsimp only; omega)))
          | (apply g_quo Tryz.tbOk; exact rfl; exact rfl; exact rfl; exact rfl; (first | omega | (dsimp only; omega)); (constructor <;> omega))
          | (apply g_cat; exact rfl; exact rfl; exact rfl; (first | omega | (simp; done) | (simp; omega)))
          | (apply g_cmp Tryz.tbOk; exact rfl; exact rfl; exact rfl; exact rfl; exact rfl; intro c hc; first | (have hb := BD.yes hc (by omega); subst hb; clear hc) | (have hb := BD.no hc (by omega); subst hb; clear hc) | skip)
          | (apply g_cmpS Tryz.tbOk; exact rfl; exact rfl; exact rfl; exact rfl; intro c hc)
          | (apply g_eqW Tryz.tbOk Tryz.elOk; exact rfl; exact rfl; exact rfl; exact rfl; exact rfl; exact rfl; intro c hc)
          | (apply g_conv Tryz.tbOk; exact rfl; exact rfl; exact rfl; exact rfl; exact rfl; (constructor <;> omega))
          | (apply x_set Tryz.tbOk Tryz.elOk Tryz.xtOk; exact rfl; exact rfl)
          | (apply x_grow Tryz.tbOk Tryz.elOk Tryz.xtOk; exact rfl; exact rfl)
          | (apply x_store Tryz.tbOk Tryz.elOk Tryz.xtOk; exact rfl)
          | (apply x_setN Tryz.tbOk Tryz.elOk Tryz.xtOk; exact rfl)
          | (apply g_ixs Tryz.tbOk; exact rfl; exact rfl; exact rfl; exact rfl; exact rfl; omega)
          | (apply g_ips Tryz.tbOk; exact rfl; exact rfl; exact rfl; exact rfl; exact rfl; exact rfl; exact rfl; (first | omega | (dsimp only; omega)))
          | (apply g_sls Tryz.tbOk; exact rfl; exact rfl; exact rfl; exact rfl; exact rfl; exact rfl; omega)
          | (apply g_ixg Tryz.tbOk; exact rfl; exact rfl; exact rfl; exact rfl; exact rfl; exact rfl; (first | omega | (dsimp only; omega))))
      | refine ops_skip rfl rfl ?_
      | refine ops_nil ?_
      | refine then_n ?_
      | refine f_condT rfl ?_
      | refine f_condF rfl ?_
      | refine f_block ?_
      | refine f_exit ?_
      | refine f_ret ?_
      | refine f_skip ?_
      | refine DrK.nil rfl ?_
      | refine d_skip rfl rfl ?_
      | refine d_skipN rfl ?_
      | (apply d_callR; exact rfl; exact rfl; exact rfl; exact Tryz.fnOk rfl; exact fun g => RetTo.frameR (there_spec G l (.slc 1 0 l.length (.opn 0 0)) next) [0, 1] rfl (by ((repeat' (first | exact trivial | exact fits_enc (by assumption) (fun _ => rfl) | exact fits_enc (by assumption) (fun h => h) | exact ⟨_, rfl, fun _ => rfl⟩ | exact ⟨_, rfl, fun h => h⟩ | refine ⟨?_, ?_⟩)); (first | done | fail))) (by ((repeat' (first | exact trivial | assumption | exact AVs.le_mono (Nat.le_of_ble_eq_true rfl) _ (by assumption) | exact Nat.le_of_ble_eq_true rfl | exact Enc.Gr.le (by assumption) _ _ | exact gr_le (by assumption) _ | exact InSl.le (by assumption) _ | refine ⟨?_, ?_⟩)); (first | done | fail))) (by ((repeat' (first | exact trivial | assumption | exact AVs.le_mono (Nat.le_of_ble_eq_true rfl) _ (by assumption) | exact Nat.le_of_ble_eq_true rfl | exact Enc.Gr.le (by assumption) _ _ | exact gr_le (by assumption) _ | exact InSl.le (by assumption) _ | refine ⟨?_, ?_⟩)); (first | done | fail))) rfl rfl (List.append_nil _))
      | (apply d_any; exact rfl; exact rfl; exact st_sum Tryz.tbOk rfl rfl rfl rfl (by constructor <;> omega))
      | (refine d_bd rfl rfl (st_cmp Tryz.tbOk rfl rfl rfl rfl) ?_; intro c hc; first | (have hb := BD.yes hc (by omega); subst hb; clear hc) | (have hb := BD.no hc (by omega); subst hb; clear hc) | skip)
      | (refine d_bd rfl rfl (st_cmpS Tryz.tbOk rfl rfl rfl) ?_; intro c hc)
      | (refine d_bd rfl rfl (st_eqW Tryz.tbOk Tryz.elOk rfl rfl rfl rfl rfl) ?_; intro c hc)
      | (apply d_set Tryz.tbOk Tryz.elOk Tryz.xtOk; exact rfl; exact rfl; exact rfl)
      | (apply d_ips Tryz.tbOk; exact rfl; exact rfl; exact rfl; exact rfl; exact rfl; exact rfl; exact rfl; exact rfl; (first | omega | (dsimp only; omega)))
      | (apply d_ixg Tryz.tbOk; exact rfl; exact rfl; exact rfl; exact rfl; exact rfl; exact rfl; exact rfl; (first | omega | (dsimp only; omega)))
      | (apply d_grow Tryz.tbOk Tryz.elOk Tryz.xtOk; exact rfl; exact rfl; exact rfl)
      | (apply d_store Tryz.tbOk Tryz.elOk Tryz.xtOk; exact rfl; exact rfl)
      | refine then_x ?_
      | refine then_r ?_
      | refine blk_n ?_
      | refine blk_eq rfl ?_
      | refine blk_ne rfl ?_
      | refine blk_r ?_
      | refine loop_x ?_
      | refine loop_r ?_
      | refine cut_x ?_
      | refine cut_r ?_
      | refine body_ret rfl rfl ?_
      | refine body_end rfl rfl ?_
      | exact (rfl : AEnd.ret _ = AEnd.ret _)
      | exact ⟨rfl, _, rfl⟩
      | exact ⟨rfl, HFin.refl _⟩
      | (rename BD _ _ => hbd; cases hbd)
      | (rename ¬ _ = _ => hq; exact absurd rfl hq))
    refine f_loopV (fun x : Nat × List Int => [(1, .fn (.func f) [] caps), (4, outV 3 x.2), (13, .slc 1 0 l.length (.opn 0 0)), (14, .int .i64 l.length), (15, .int .i64 x.1)])
      (fun x => [cObj (.slc 1 0 l.length (.opn 0 0)) next, aObj l, .cells kc kt false false] ++ outO x.2) (fun x => x.1 ≤ l.length ∧ x.2 = idsOf p (l.take x.1)) (fun x => l.length - x.1) (0, []) ⟨by simp, by simp [idsOf]⟩ ⟨[0, 1, 2], rfl, (by ((repeat' (first | exact trivial | exact rfl | assumption | exact objv_enc (by assumption) rfl | exact objv_gr (by assumption) rfl | exact get_fn rfl (by assumption) rfl | exact InSl.getr (by assumption) rfl | exact InSl.le (by assumption) _ | exact AVs.le_mono (Nat.le_of_ble_eq_true rfl) _ (by assumption) | exact Nat.le_of_ble_eq_true rfl | exact Enc.Gr.le (by assumption) _ _ | exact gr_le (by assumption) _ | refine ⟨?_, ?_⟩)); (first | done | fail))), rfl, rfl, (by ((repeat' (first | exact trivial | exact rfl | assumption | exact objv_enc (by assumption) rfl | exact objv_gr (by assumption) rfl | exact get_fn rfl (by assumption) rfl | exact InSl.getr (by assumption) rfl | exact InSl.le (by assumption) _ | exact AVs.le_mono (Nat.le_of_ble_eq_true rfl) _ (by assumption) | exact Nat.le_of_ble_eq_true rfl | exact Enc.Gr.le (by assumption) _ _ | exact gr_le (by assumption) _ | refine ⟨?_, ?_⟩)); (first | done | fail)))⟩ ?_
    rintro ⟨k, is⟩ ⟨hk, his⟩
    dsimp only at hk his
    have hle := idsOf_le p l k
    rw [← his] at hle
    rcases Nat.lt_or_ge k l.length with hlt | hge
    · obtain ⟨x, hx⟩ : ∃ x, l[k]? = some x := ⟨_, List.getElem?_eq_getElem hlt⟩
      have hs := idsOf_s (p := p) hx
      rw [← his] at hs
      have hpx := hp x (List.mem_of_getElem? hx)
      cases is with
      | nil =>
        repeat' (first
          | refine f_seq ?_
          | (refine f_regionL Tryz.lv24 ?_; show opsWP _ _ _ _ _ _ _ _ _)
          | (refine f_drawL Tryz.lv24 Tryz.mixed ?_; show DrK _ _ _ _ _ _ _ _ _ _)
          | (refine ops_go rfl ?_; first
              | (apply g_load Tryz.tbOk; exact rfl; exact rfl; exact rfl; exact rfl; exact cnE.load_row hx rfl rfl (by dsimp only; omega))
              | (apply g_retB; exact rfl; exact rfl; exact hf; exact hpx [_]; intro c hc)
              | (apply g_appN Tryz.tbOk; exact rfl; exact rfl; exact rfl; exact rfl; exact rfl; decide; (constructor <;> decide))
              | (apply g_sum Tryz.tbOk; exact rfl; exact rfl; exact rfl; exact rfl; exact rfl; (constructor <;> omega))
              | (apply g_rem Tryz.tbOk; exact rfl; exact rfl; exact rfl; exact rfl; (first | omega | (dsimp only; omega)))
              | (apply g_quo Tryz.tbOk; exact rfl; exact rfl; exact rfl; exact rfl; (first | omega | (dsimp only; omega)); (constructor <;> omega))
              | (apply g_cat; exact rfl; exact rfl; exact rfl; (first | omega | (simp; done) | (simp; omega)))
              | (apply g_cmp Tryz.tbOk; exact rfl; exact rfl; exact rfl; exact rfl; exact rfl; intro c hc; first | (have hb := BD.yes hc (by omega); subst hb; clear hc) | (have hb := BD.no hc (by omega); subst hb; clear hc) | skip)
              | (apply g_cmpS Tryz.tbOk; exact rfl; exact rfl; exact rfl; exact rfl; intro c hc)
              | (apply g_eqW Tryz.tbOk Tryz.elOk; exact rfl; exact rfl; exact rfl; exact rfl; exact rfl; exact rfl; intro c hc)
              | (apply g_conv Tryz.tbOk; exact rfl; exact rfl; exact rfl; exact rfl; exact rfl; (constructor <;> omega))
              | (apply x_set Tryz.tbOk Tryz.elOk Tryz.xtOk; exact rfl; exact rfl)
              | (apply x_grow Tryz.tbOk Tryz.elOk Tryz.xtOk; exact rfl; exact rfl)
              | (apply x_store Tryz.tbOk Tryz.elOk Tryz.xtOk; exact rfl)
              | (apply x_setN Tryz.tbOk Tryz.elOk Tryz.xtOk; exact rfl)
              | (apply g_ixs Tryz.tbOk; exact rfl; exact rfl; exact rfl; exact rfl; exact rfl; omega)
              | (apply g_ips Tryz.tbOk; exact rfl; exact rfl; exact rfl; exact rfl; exact rfl; exact rfl; exact rfl; (first | omega | (dsimp only; omega)))
              | (apply g_sls Tryz.tbOk; exact rfl; exact rfl; exact rfl; exact rfl; exact rfl; exact rfl; omega)
              | (apply g_ixg Tryz.tbOk; exact rfl; exact rfl; exact rfl; exact rfl; exact rfl; exact rfl; (first | omega | (dsimp only; omega))))
          | refine ops_skip rfl rfl ?_
          | refine ops_nil ?_
          | refine then_n ?_
          | refine f_condT rfl ?_
          | refine f_condF rfl ?_
          | refine f_block ?_
          | refine f_exit ?_
          | refine f_ret ?_
          | refine f_skip ?_
          | refine DrK.nil rfl ?_
          | refine d_skip rfl rfl ?_
          | refine d_skipN rfl ?_
          | (apply d_load Tryz.tbOk; exact rfl; exact rfl; exact rfl; exact rfl; exact rfl; exact cnE.load_row hx rfl rfl (by dsimp only; omega))
          | (apply d_any; exact rfl; exact rfl; exact st_sum Tryz.tbOk rfl rfl rfl rfl (by constructor <;> omega))
          | (refine d_bd rfl rfl (st_cmp Tryz.tbOk rfl rfl rfl rfl) ?_; intro c hc; first | (have hb := BD.yes hc (by omega); subst hb; clear hc) | (have hb := BD.no hc (by omega); subst hb; clear hc) | skip)
          | (refine d_bd rfl rfl (st_cmpS Tryz.tbOk rfl rfl rfl) ?_; intro c hc)
          | (refine d_bd rfl rfl (st_eqW Tryz.tbOk Tryz.elOk rfl rfl rfl rfl rfl) ?_; intro c hc)
          | (apply d_set Tryz.tbOk Tryz.elOk Tryz.xtOk; exact rfl; exact rfl; exact rfl)
          | (apply d_ips Tryz.tbOk; exact rfl; exact rfl; exact rfl; exact rfl; exact rfl; exact rfl; exact rfl; exact rfl; (first | omega | (dsimp only; omega)))
          | (apply d_ixg Tryz.tbOk; exact rfl; exact rfl; exact rfl; exact rfl; exact rfl; exact rfl; exact rfl; (first | omega | (dsimp only; omega)))
          | (apply d_grow Tryz.tbOk Tryz.elOk Tryz.xtOk; exact rfl; exact rfl; exact rfl)
          | (apply d_store Tryz.tbOk Tryz.elOk Tryz.xtOk; exact rfl; exact rfl)
          | refine then_x ?_
          | refine then_r ?_
          | refine blk_n ?_
          | refine blk_eq rfl ?_
          | refine blk_ne rfl ?_
          | refine blk_r ?_
          | refine loop_x ?_
          | refine loop_r ?_
          | refine cut_x ?_
          | refine cut_r ?_
          | refine body_ret rfl rfl ?_
          | refine body_end rfl rfl ?_
          | exact (rfl : AEnd.ret _ = AEnd.ret _)
          | exact ⟨rfl, _, rfl⟩
          | exact ⟨rfl, HFin.refl _⟩
          | (rename BD _ _ => hbd; cases hbd)
          | (rename ¬ _ = _ => hq; exact absurd rfl hq))
        · rename_i q
          exact loop_v (k + 1, [x.id]) ⟨by dsimp only; omega, by dsimp only; rw [hs, if_pos q]; rfl⟩ (by dsimp only; omega) ⟨[0, 1, 2, 5], rfl, (by ((repeat' (first | exact trivial | exact rfl | assumption | exact objv_enc (by assumption) rfl | exact objv_gr (by assumption) rfl | exact get_fn rfl (by assumption) rfl | exact InSl.getr (by assumption) rfl | exact InSl.le (by assumption) _ | exact AVs.le_mono (Nat.le_of_ble_eq_true rfl) _ (by assumption) | exact Nat.le_of_ble_eq_true rfl | exact Enc.Gr.le (by assumption) _ _ | exact gr_le (by assumption) _ | refine ⟨?_, ?_⟩)); (first | done | fail))), rfl, rfl, (by ((repeat' (first | exact trivial | exact rfl | assumption | exact objv_enc (by assumption) rfl | exact objv_gr (by assumption) rfl | exact get_fn rfl (by assumption) rfl | exact InSl.getr (by assumption) rfl | exact InSl.le (by assumption) _ | exact AVs.le_mono (Nat.le_of_ble_eq_true rfl) _ (by assumption) | exact Nat.le_of_ble_eq_true rfl | exact Enc.Gr.le (by assumption) _ _ | exact gr_le (by assumption) _ | refine ⟨?_, ?_⟩)); (first | done | fail)))⟩
        · rename_i q
          exact loop_v (k + 1, []) ⟨by dsimp only; omega, by dsimp only; rw [hs, if_neg q]; rfl⟩ (by dsimp only; omega) ⟨[0, 1, 2], rfl, (by ((repeat' (first | exact trivial | exact rfl | assumption | exact objv_enc (by assumption) rfl | exact objv_gr (by assumption) rfl | exact get_fn rfl (by assumption) rfl | exact InSl.getr (by assumption) rfl | exact InSl.le (by assumption) _ | exact AVs.le_mono (Nat.le_of_ble_eq_true rfl) _ (by assumption) | exact Nat.le_of_ble_eq_true rfl | exact Enc.Gr.le (by assumption) _ _ | exact gr_le (by assumption) _ | refine ⟨?_, ?_⟩)); (first | done | fail))), rfl, rfl, (by ((repeat' (first | exact trivial | exact rfl | assumption | exact objv_enc (by assumption) rfl | exact objv_gr (by assumption) rfl | exact get_fn rfl (by assumption) rfl | exact InSl.getr (by assumption) rfl | exact InSl.le (by assumption) _ | exact AVs.le_mono (Nat.le_of_ble_eq_true rfl) _ (by assumption) | exact Nat.le_of_ble_eq_true rfl | exact Enc.Gr.le (by assumption) _ _ | exact gr_le (by assumption) _ | refine ⟨?_, ?_⟩)); (first | done | fail)))⟩
      | cons a t =>
        simp only [List.length_cons] at hle
        repeat' (first
          | refine f_seq ?_
          | (refine f_regionL Tryz.lv24 ?_; show opsWP _ _ _ _ _ _ _ _ _)
          | (refine f_drawL Tryz.lv24 Tryz.mixed ?_; show DrK _ _ _ _ _ _ _ _ _ _)
          | (refine ops_go rfl ?_; first
              | (apply g_load Tryz.tbOk; exact rfl; exact rfl; exact rfl; exact rfl; exact cnE.load_row hx rfl rfl (by dsimp only; omega))
              | (apply g_retB; exact rfl; exact rfl; exact hf; exact hpx [_, _]; intro c hc)
              | (apply g_app1 (a :: (t ++ [x.id])).length Tryz.tbOk; exact rfl; exact rfl; exact rfl; exact rfl; exact rfl; exact rfl; exact rfl; (rw [intE.of_length]); (simp only [List.length_cons]; constructor <;> omega); exact (intE.of_append (a :: t) [x.id]).symm; simp)
              | (apply g_sum Tryz.tbOk; exact rfl; exact rfl; exact rfl; exact rfl; exact rfl; (constructor <;> omega))
              | (apply g_rem Tryz.tbOk; exact rfl; exact rfl; exact rfl; exact rfl; (first | omega | (dsimp only; omega)))
              | (apply g_quo Tryz.tbOk; exact rfl; exact rfl; exact rfl; exact rfl; (first | omega | (dsimp only; omega)); (constructor <;> omega))
              | (apply g_cat; exact rfl; exact rfl; exact rfl; (first | omega | (simp; done) | (simp; omega)))
              | (apply g_cmp Tryz.tbOk; exact rfl; exact rfl; exact rfl; exact rfl; exact rfl; intro c hc; first | (have hb := BD.yes hc (by omega); subst hb; clear hc) | (have hb := BD.no hc (by omega); subst hb; clear hc) | skip)
              | (apply g_cmpS Tryz.tbOk; exact rfl; exact rfl; exact rfl; exact rfl; intro c hc)
              | (apply g_eqW Tryz.tbOk Tryz.elOk; exact rfl; exact rfl; exact rfl; exact rfl; exact rfl; exact rfl; intro c hc)
              | (apply g_conv Tryz.tbOk; exact rfl; exact rfl; exact rfl; exact rfl; exact rfl; (constructor <;> omega))
              | (apply x_set Tryz.tbOk Tryz.elOk Tryz.xtOk; exact rfl; exact rfl)
              | (apply x_grow Tryz.tbOk Tryz.elOk Tryz.xtOk; exact rfl; exact rfl)
              | (apply x_store Tryz.tbOk Tryz.elOk Tryz.xtOk; exact rfl)
              | (apply x_setN Tryz.tbOk Tryz.elOk Tryz.xtOk; exact rfl)
              | (apply g_ixs Tryz.tbOk; exact rfl; exact rfl; exact rfl; exact rfl; exact rfl; omega)
              | (apply g_ips Tryz.tbOk; exact rfl; exact rfl; exact rfl; exact rfl; exact rfl; exact rfl; exact rfl; (first | omega | (dsimp only; omega)))
              | (apply g_sls Tryz.tbOk; exact rfl; exact rfl; exact rfl; exact rfl; exact rfl; exact rfl; omega)
              | (apply g_ixg Tryz.tbOk; exact rfl; exact rfl; exact rfl; exact rfl; exact rfl; exact rfl; (first | omega | (dsimp only; omega))))
          | refine ops_skip rfl rfl ?_
          | refine ops_nil ?_
          | refine then_n ?_
          | refine f_condT rfl ?_
          | refine f_condF rfl ?_
          | refine f_block ?_
          | refine f_exit ?_
          | refine f_ret ?_
          | refine f_skip ?_
          | refine DrK.nil rfl ?_
          | refine d_skip rfl rfl ?_
          | refine d_skipN rfl ?_
          | (apply d_load Tryz.tbOk; exact rfl; exact rfl; exact rfl; exact rfl; exact rfl; exact cnE.load_row hx rfl rfl (by dsimp only; omega))
          | (apply d_any; exact rfl; exact rfl; exact st_sum Tryz.tbOk rfl rfl rfl rfl (by constructor <;> omega))
          | (refine d_bd rfl rfl (st_cmp Tryz.tbOk rfl rfl rfl rfl) ?_; intro c hc; first | (have hb := BD.yes hc (by omega); subst hb; clear hc) | (have hb := BD.no hc (by omega); subst hb; clear hc) | skip)
          | (refine d_bd rfl rfl (st_cmpS Tryz.tbOk rfl rfl rfl) ?_; intro c hc)
          | (refine d_bd rfl rfl (st_eqW Tryz.tbOk Tryz.elOk rfl rfl rfl rfl rfl) ?_; intro c hc)
          | (apply d_set Tryz.tbOk Tryz.elOk Tryz.xtOk; exact rfl; exact rfl; exact rfl)
          | (apply d_ips Tryz.tbOk; exact rfl; exact rfl; exact rfl; exact rfl; exact rfl; exact rfl; exact rfl; exact rfl; (first | omega | (dsimp only; omega)))
          | (apply d_ixg Tryz.tbOk; exact rfl; exact rfl; exact rfl; exact rfl; exact rfl; exact rfl; exact rfl; (first | omega | (dsimp only; omega)))
          | (apply d_grow Tryz.tbOk Tryz.elOk Tryz.xtOk; exact rfl; exact rfl; exact rfl)
          | (apply d_store Tryz.tbOk Tryz.elOk Tryz.xtOk; exact rfl; exact rfl)
          | refine then_x ?_
          | refine then_r ?_
          | refine blk_n ?_
          | refine blk_eq rfl ?_
          | refine blk_ne rfl ?_
          | refine blk_r ?_
          | refine loop_x ?_
          | refine loop_r ?_
          | refine cut_x ?_
          | refine cut_r ?_
          | refine body_ret rfl rfl ?_
          | refine body_end rfl rfl ?_
          | exact (rfl : AEnd.ret _ = AEnd.ret _)
          | exact ⟨rfl, _, rfl⟩
          | exact ⟨rfl, HFin.refl _⟩
          | (rename BD _ _ => hbd; cases hbd)
          | (rename ¬ _ = _ => hq; exact absurd rfl hq))
        · rename_i q
          exact loop_v (k + 1, a :: (t ++ [x.id])) ⟨by dsimp only; omega, by dsimp only; rw [hs, if_pos q]; rfl⟩ (by dsimp only; omega) ⟨[0, 1, 2, 6], rfl, (by ((repeat' (first | exact trivial | exact rfl | assumption | exact objv_enc (by assumption) rfl | exact objv_gr (by assumption) rfl | exact get_fn rfl (by assumption) rfl | exact InSl.getr (by assumption) rfl | exact InSl.le (by assumption) _ | exact AVs.le_mono (Nat.le_of_ble_eq_true rfl) _ (by assumption) | exact Nat.le_of_ble_eq_true rfl | exact Enc.Gr.le (by assumption) _ _ | exact gr_le (by assumption) _ | refine ⟨?_, ?_⟩)); (first | done | fail))), rfl, rfl, (by ((repeat' (first | exact trivial | exact rfl | assumption | exact objv_enc (by assumption) rfl | exact objv_gr (by assumption) rfl | exact get_fn rfl (by assumption) rfl | exact InSl.getr (by assumption) rfl | exact InSl.le (by assumption) _ | exact AVs.le_mono (Nat.le_of_ble_eq_true rfl) _ (by assumption) | exact Nat.le_of_ble_eq_true rfl | exact Enc.Gr.le (by assumption) _ _ | exact gr_le (by assumption) _ | refine ⟨?_, ?_⟩)); (first | done | fail)))⟩
        · rename_i q
          exact loop_v (k + 1, a :: t) ⟨by dsimp only; omega, by dsimp only; rw [hs, if_neg q, List.append_nil]⟩ (by dsimp only; omega) ⟨[0, 1, 2, 3], rfl, (by ((repeat' (first | exact trivial | exact rfl | assumption | exact objv_enc (by assumption) rfl | exact objv_gr (by assumption) rfl | exact get_fn rfl (by assumption) rfl | exact InSl.getr (by assumption) rfl | exact InSl.le (by assumption) _ | exact AVs.le_mono (Nat.le_of_ble_eq_true rfl) _ (by assumption) | exact Nat.le_of_ble_eq_true rfl | exact Enc.Gr.le (by assumption) _ _ | exact gr_le (by assumption) _ | refine ⟨?_, ?_⟩)); (first | done | fail))), rfl, rfl, (by ((repeat' (first | exact trivial | exact rfl | assumption | exact objv_enc (by assumption) rfl | exact objv_gr (by assumption) rfl | exact get_fn rfl (by assumption) rfl | exact InSl.getr (by assumption) rfl | exact InSl.le (by assumption) _ | exact AVs.le_mono (Nat.le_of_ble_eq_true rfl) _ (by assumption) | exact Nat.le_of_ble_eq_true rfl | exact Enc.Gr.le (by assumption) _ _ | exact gr_le (by assumption) _ | refine ⟨?_, ?_⟩)); (first | done | fail)))⟩
    · obtain rfl : k = l.length := by omega
      rw [List.take_length] at his
      subst his
      cases hi : idsOf p l with
      | nil =>
        repeat' (first
          | refine f_seq ?_
          | (refine f_regionL Tryz.lv24 ?_; show opsWP _ _ _ _ _ _ _ _ _)
          | (refine f_drawL Tryz.lv24 Tryz.mixed ?_; show DrK _ _ _ _ _ _ _ _ _ _)
          | (refine ops_go rfl ?_; first
              | (apply g_callP; exact rfl; exact rfl; exact Tryz.fnOk rfl; exact clip0_spec G)
              | (apply g_sum Tryz.tbOk; exact rfl; exact rfl; exact rfl; exact rfl; exact rfl; (constructor <;> omega))
              | (apply g_rem Tryz.tbOk; exact rfl; exact rfl; exact rfl; exact rfl; (first | omega | (dsimp only; omega)))
              | (apply g_quo Tryz.tbOk; exact rfl; exact rfl; exact rfl; exact rfl; (first | omega | (dsimp only; omega)); (constructor <;> omega))
              | (apply g_cat; exact rfl; exact rfl; exact rfl; (first | omega | (simp; done) | (simp; omega)))
              | (apply g_cmp Tryz.tbOk; exact rfl; exact rfl; exact rfl; exact rfl; exact rfl; intro c hc; first | (have hb := BD.yes hc (by omega); subst hb; clear hc) | (have hb := BD.no hc (by omega); subst hb; clear hc) | skip)
              | (apply g_cmpS Tryz.tbOk; exact rfl; exact rfl; exact rfl; exact rfl; intro c hc)
              | (apply g_eqW Tryz.tbOk Tryz.elOk; exact rfl; exact rfl; exact rfl; exact rfl; exact rfl; exact rfl; intro c hc)
              | (apply g_conv Tryz.tbOk; exact rfl; exact rfl; exact rfl; exact rfl; exact rfl; (constructor <;> omega))
              | (apply x_set Tryz.tbOk Tryz.elOk Tryz.xtOk; exact rfl; exact rfl)
              | (apply x_grow Tryz.tbOk Tryz.elOk Tryz.xtOk; exact rfl; exact rfl)
              | (apply x_store Tryz.tbOk Tryz.elOk Tryz.xtOk; exact rfl)
              | (apply x_setN Tryz.tbOk Tryz.elOk Tryz.xtOk; exact rfl)
              | (apply g_ixs Tryz.tbOk; exact rfl; exact rfl; exact rfl; exact rfl; exact rfl; omega)
              | (apply g_ips Tryz.tbOk; exact rfl; exact rfl; exact rfl; exact rfl; exact rfl; exact rfl; exact rfl; (first | omega | (dsimp only; omega)))
              | (apply g_sls Tryz.tbOk; exact rfl; exact rfl; exact rfl; exact rfl; exact rfl; exact rfl; omega)
              | (apply g_ixg Tryz.tbOk; exact rfl; exact rfl; exact rfl; exact rfl; exact rfl; exact rfl; (first | omega | (dsimp only; omega))))
          | refine ops_skip rfl rfl ?_
          | refine ops_nil ?_
          | refine then_n ?_
          | refine f_condT rfl ?_
          | refine f_condF rfl ?_
          | refine f_block ?_
          | refine f_exit ?_
          | refine f_ret ?_
          | refine f_skip ?_
          | refine DrK.nil rfl ?_
          | refine d_skip rfl rfl ?_
          | refine d_skipN rfl ?_
          | (apply d_callP; exact rfl; exact rfl; exact rfl; exact Tryz.fnOk rfl; exact clip0_spec G)
          | (apply d_any; exact rfl; exact rfl; exact st_sum Tryz.tbOk rfl rfl rfl rfl (by constructor <;> omega))
          | (refine d_bd rfl rfl (st_cmp Tryz.tbOk rfl rfl rfl rfl) ?_; intro c hc; first | (have hb := BD.yes hc (by omega); subst hb; clear hc) | (have hb := BD.no hc (by omega); subst hb; clear hc) | skip)
          | (refine d_bd rfl rfl (st_cmpS Tryz.tbOk rfl rfl rfl) ?_; intro c hc)
          | (refine d_bd rfl rfl (st_eqW Tryz.tbOk Tryz.elOk rfl rfl rfl rfl rfl) ?_; intro c hc)
          | (apply d_set Tryz.tbOk Tryz.elOk Tryz.xtOk; exact rfl; exact rfl; exact rfl)
          | (apply d_ips Tryz.tbOk; exact rfl; exact rfl; exact rfl; exact rfl; exact rfl; exact rfl; exact rfl; exact rfl; (first | omega | (dsimp only; omega)))
          | (apply d_ixg Tryz.tbOk; exact rfl; exact rfl; exact rfl; exact rfl; exact rfl; exact rfl; exact rfl; (first | omega | (dsimp only; omega)))
          | (apply d_grow Tryz.tbOk Tryz.elOk Tryz.xtOk; exact rfl; exact rfl; exact rfl)
          | (apply d_store Tryz.tbOk Tryz.elOk Tryz.xtOk; exact rfl; exact rfl)
          | refine then_x ?_
          | refine then_r ?_
          | refine blk_n ?_
          | refine blk_eq rfl ?_
          | refine blk_ne rfl ?_
          | refine blk_r ?_
          | refine loop_x ?_
          | refine loop_r ?_
          | refine cut_x ?_
          | refine cut_r ?_
          | refine body_ret rfl rfl ?_
          | refine body_end rfl rfl ?_
          | exact (rfl : AEnd.ret _ = AEnd.ret _)
          | exact ⟨rfl, _, rfl⟩
          | exact ⟨rfl, HFin.refl _⟩
          | (rename BD _ _ => hbd; cases hbd)
          | (rename ¬ _ = _ => hq; exact absurd rfl hq))
      | cons a t =>
        repeat' (first
          | refine f_seq ?_
          | (refine f_regionL Tryz.lv24 ?_; show opsWP _ _ _ _ _ _ _ _ _)
          | (refine f_drawL Tryz.lv24 Tryz.mixed ?_; show DrK _ _ _ _ _ _ _ _ _ _)
          | (refine ops_go rfl ?_; first
              | (apply g_ret; exact rfl; exact rfl; exact Tryz.fnOk rfl; exact RetTo.frameR (clip_spec G (a :: t) (by simp)) [3] rfl (by ((repeat' (first | exact trivial | exact fits_enc (by assumption) (fun _ => rfl) | exact fits_enc (by assumption) (fun h => h) | exact ⟨_, rfl, fun _ => rfl⟩ | exact ⟨_, rfl, fun h => h⟩ | refine ⟨?_, ?_⟩)); (first | done | fail))) (by ((repeat' (first | exact trivial | assumption | exact AVs.le_mono (Nat.le_of_ble_eq_true rfl) _ (by assumption) | exact Nat.le_of_ble_eq_true rfl | exact Enc.Gr.le (by assumption) _ _ | exact gr_le (by assumption) _ | exact InSl.le (by assumption) _ | refine ⟨?_, ?_⟩)); (first | done | fail))) (by ((repeat' (first | exact trivial | assumption | exact AVs.le_mono (Nat.le_of_ble_eq_true rfl) _ (by assumption) | exact Nat.le_of_ble_eq_true rfl | exact Enc.Gr.le (by assumption) _ _ | exact gr_le (by assumption) _ | exact InSl.le (by assumption) _ | refine ⟨?_, ?_⟩)); (first | done | fail))) rfl rfl rfl)
              | (apply g_sum Tryz.tbOk; exact rfl; exact rfl; exact rfl; exact rfl; exact rfl; (constructor <;> omega))
              | (apply g_rem Tryz.tbOk; exact rfl; exact rfl; exact rfl; exact rfl; (first | omega | (dsimp only; omega)))
              | (apply g_quo Tryz.tbOk; exact rfl; exact rfl; exact rfl; exact rfl; (first | omega | (dsimp only; omega)); (constructor <;> omega))
              | (apply g_cat; exact rfl; exact rfl; exact rfl; (first | omega | (simp; done) | (simp; omega)))
              | (apply g_cmp Tryz.tbOk; exact rfl; exact rfl; exact rfl; exact rfl; exact rfl; intro c hc; first | (have hb := BD.yes hc (by omega); subst hb; clear hc) | (have hb := BD.no hc (by omega); subst hb; clear hc) | skip)
              | (apply g_cmpS Tryz.tbOk; exact rfl; exact rfl; exact rfl; exact rfl; intro c hc)
              | (apply g_eqW Tryz.tbOk Tryz.elOk; exact rfl; exact rfl; exact rfl; exact rfl; exact rfl; exact rfl; intro c hc)
              | (apply g_conv Tryz.tbOk; exact rfl; exact rfl; exact rfl; exact rfl; exact rfl; (constructor <;> omega))
              | (apply x_set Tryz.tbOk Tryz.elOk Tryz.xtOk; exact rfl; exact rfl)
              | (apply x_grow Tryz.tbOk Tryz.elOk Tryz.xtOk; exact rfl; exact rfl)
              | (apply x_store Tryz.tbOk Tryz.elOk Tryz.xtOk; exact rfl)
              | (apply x_setN Tryz.tbOk Tryz.elOk Tryz.xtOk; exact rfl)
              | (apply g_ixs Tryz.tbOk; exact rfl; exact rfl; exact rfl; exact rfl; exact rfl; omega)
              | (apply g_ips Tryz.tbOk; exact rfl; exact rfl; exact rfl; exact rfl; exact rfl; exact rfl; exact rfl; (first | omega | (dsimp only; omega)))
              | (apply g_sls Tryz.tbOk; exact rfl; exact rfl; exact rfl; exact rfl; exact rfl; exact rfl; omega)
              | (apply g_ixg Tryz.tbOk; exact rfl; exact rfl; exact rfl; exact rfl; exact rfl; exact rfl; (first | omega | (dsimp only; omega))))
          | refine ops_skip rfl rfl ?_
          | refine ops_nil ?_
          | refine then_n ?_
          | refine f_condT rfl ?_
          | refine f_condF rfl ?_
          | refine f_block ?_
          | refine f_exit ?_
          | refine f_ret ?_
          | refine f_skip ?_
          | refine DrK.nil rfl ?_
          | refine d_skip rfl rfl ?_
          | refine d_skipN rfl ?_
          | (apply d_callR; exact rfl; exact rfl; exact rfl; exact Tryz.fnOk rfl; exact fun g => RetTo.frameR (clip_spec G (a :: t) (by simp)) [3] rfl (by ((repeat' (first | exact trivial | exact fits_enc (by assumption) (fun _ => rfl) | exact fits_enc (by assumption) (fun h => h) | exact ⟨_, rfl, fun _ => rfl⟩ | exact ⟨_, rfl, fun h => h⟩ | refine ⟨?_, ?_⟩)); (first | done | fail))) (by ((repeat' (first | exact trivial | assumption | exact AVs.le_mono (Nat.le_of_ble_eq_true rfl) _ (by assumption) | exact Nat.le_of_ble_eq_true rfl | exact Enc.Gr.le (by assumption) _ _ | exact gr_le (by assumption) _ | exact InSl.le (by assumption) _ | refine ⟨?_, ?_⟩)); (first | done | fail))) (by ((repeat' (first | exact trivial | assumption | exact AVs.le_mono (Nat.le_of_ble_eq_true rfl) _ (by assumption) | exact Nat.le_of_ble_eq_true rfl | exact Enc.Gr.le (by assumption) _ _ | exact gr_le (by assumption) _ | exact InSl.le (by assumption) _ | refine ⟨?_, ?_⟩)); (first | done | fail))) rfl rfl (List.append_nil _))
          | (apply d_any; exact rfl; exact rfl; exact st_sum Tryz.tbOk rfl rfl rfl rfl (by constructor <;> omega))
          | (refine d_bd rfl rfl (st_cmp Tryz.tbOk rfl rfl rfl rfl) ?_; intro c hc; first | (have hb := BD.yes hc (by omega); subst hb; clear hc) | (have hb := BD.no hc (by omega); subst hb; clear hc) | skip)
          | (refine d_bd rfl rfl (st_cmpS Tryz.tbOk rfl rfl rfl) ?_; intro c hc)
          | (refine d_bd rfl rfl (st_eqW Tryz.tbOk Tryz.elOk rfl rfl rfl rfl rfl) ?_; intro c hc)
          | (apply d_set Tryz.tbOk Tryz.elOk Tryz.xtOk; exact rfl; exact rfl; exact rfl)
          | (apply d_ips Tryz.tbOk; exact rfl; exact rfl; exact rfl; exact rfl; exact rfl; exact rfl; exact rfl; exact rfl; (first | omega | (dsimp only; omega)))
          | (apply d_ixg Tryz.tbOk; exact rfl; exact rfl; exact rfl; exact rfl; exact rfl; exact rfl; exact rfl; (first | omega | (dsimp only; omega)))
          | (apply d_grow Tryz.tbOk Tryz.elOk Tryz.xtOk; exact rfl; exact rfl; exact rfl)
          | (apply d_store Tryz.tbOk Tryz.elOk Tryz.xtOk; exact rfl; exact rfl)
          | refine then_x ?_
          | refine then_r ?_
          | refine blk_n ?_
          | refine blk_eq rfl ?_
          | refine blk_ne rfl ?_
          | refine blk_r ?_
          | refine loop_x ?_
          | refine loop_r ?_
          | refine cut_x ?_
          | refine cut_r ?_
          | refine body_ret rfl rfl ?_
          | refine body_end rfl rfl ?_
          | exact (rfl : AEnd.ret _ = AEnd.ret _)
          | exact ⟨rfl, _, rfl⟩
          | exact ⟨rfl, HFin.refl _⟩
          | (rename BD _ _ => hbd; cases hbd)
          | (rename ¬ _ = _ => hq; exact absurd rfl hq))
end Go.Proofs
