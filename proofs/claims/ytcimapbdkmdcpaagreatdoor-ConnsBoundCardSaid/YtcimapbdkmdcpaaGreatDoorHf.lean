/- A part of the proofs over this seat: what functions of the program compute, shown once each. No statement of the seat is closed in this text. -/
import Derived.Test.YtcimapbdkmdcpaaGreatDoorHe
set_option linter.all false
set_option linter.unusedVariables false
namespace Go.Proofs
open Go.Fm
attribute [local irreducible] WP opsWP opsGo CallTo RetTo PureF StepTo StoreTo thenQ blkQ loopQ bodyQ DrK
variable (G : Nat → Nat → Option AV)

set_option maxRecDepth 100000 in
set_option maxHeartbeats 4000000 in
theorem isNaN_spec (a : Int) : PureF Tryz.prog G 41 [.int .i64 a] (.bool false) := by
  refine pure_body Tryz.tbOk Tryz.func41 rfl Tryz.ntmps41 rfl rfl rfl ⟨trivial, trivial⟩ trivial ?_
  dsimp only [initF]
  repeat' (first
    | refine f_seq ?_
    | refine f_region ?_
    | refine f_draw Tryz.mixed ?_
    | (refine ops_go rfl ?_; first
        | (apply g_sum Tryz.tbOk; exact rfl; exact rfl; exact rfl; exact rfl; exact rfl; (constructor <;> omega))
        | (apply g_rem Tryz.tbOk; exact rfl; exact rfl; exact rfl; exact rfl; (first | omega | (dsimp only; omega)))
        | (apply g_quo Tryz.tbOk; exact rfl; exact rfl; exact rfl; exact rfl; (first | omega | (dsimp only; omega)); (constructor <;> omega))
        | (apply g_cat; exact rfl; exact rfl; exact rfl; (first | omega | (simp; done) | (simp; omega)))
        | (apply g_cmp Tryz.tbOk; exact rfl; exact rfl; exact rfl; exact rfl; exact rfl; intro c hc; first | (have hb := BD.yes hc (by omega); subst hb; clear hc) | (have hb := BD.no hc (by omega); subst hb; clear hc) | skip)
        | (apply g_cmpS Tryz.tbOk; exact rfl; exact rfl; exact rfl; exact rfl; intro c hc)
        | (apply g_eqW Tryz.tbOk Tryz.elOk; exact rfl; exact rfl; exact rfl; exact rfl; exact rfl; exact rfl; intro c hc)
        | (apply g_conv Tryz.tbOk; exact rfl; exact rfl; exact rfl; exact rfl; exact rfl; (constructor <;> omega))
        | (apply x_set Tryz.tbOk Tryz.elOk Tryz.xtOk; exact rfl; exact rfl)
        | (apply x_grow Tryz.tbOk Tryz.elOk Tryz.xtOk; exact rfl; exact rfl)
        | (apply x_store Tryz.tbOk Tryz.elOk Tryz.xtOk; exact rfl)
        | (apply x_setN Tryz.tbOk Tryz.elOk Tryz.xtOk; exact rfl)
        | (apply g_ixs Tryz.tbOk; exact rfl; exact rfl; exact rfl; exact rfl; exact rfl; omega)
        | (apply g_ips Tryz.tbOk; exact rfl; exact rfl; exact rfl; exact rfl; exact rfl; exact rfl; exact rfl; (first | omega | (dsimp only; omega)))
        | (apply g_sls Tryz.tbOk; exact rfl; exact rfl; exact rfl; exact rfl; exact rfl; exact rfl; omega)
        | (apply g_ixg Tryz.tbOk; exact rfl; exact rfl; exact rfl; exact rfl; exact rfl; exact rfl; (first | omega | (dsimp only; omega))))
    | refine ops_skip rfl rfl ?_
    | refine ops_nil ?_
    | refine then_n ?_
    | refine f_condT rfl ?_
    | refine f_condF rfl ?_
    | refine f_block ?_
    | refine f_exit ?_
    | refine f_ret ?_
    | refine f_skip ?_
    | refine DrK.nil rfl ?_
    | refine d_skip rfl rfl ?_
    | refine d_skipN rfl ?_
    | (apply d_any; exact rfl; exact rfl; exact st_sum Tryz.tbOk rfl rfl rfl rfl (by constructor <;> omega))
    | (refine d_bd rfl rfl (st_cmp Tryz.tbOk rfl rfl rfl rfl) ?_; intro c hc; first | (have hb := BD.yes hc (by omega); subst hb; clear hc) | (have hb := BD.no hc (by omega); subst hb; clear hc) | skip)
    | (refine d_bd rfl rfl (st_cmpS Tryz.tbOk rfl rfl rfl) ?_; intro c hc)
    | (refine d_bd rfl rfl (st_eqW Tryz.tbOk Tryz.elOk rfl rfl rfl rfl rfl) ?_; intro c hc)
    | (apply d_set Tryz.tbOk Tryz.elOk Tryz.xtOk; exact rfl; exact rfl; exact rfl)
    | (apply d_ips Tryz.tbOk; exact rfl; exact rfl; exact rfl; exact rfl; exact rfl; exact rfl; exact rfl; exact rfl; (first | omega | (dsimp only; omega)))
    | (apply d_ixg Tryz.tbOk; exact rfl; exact rfl; exact rfl; exact rfl; exact rfl; exact rfl; exact rfl; (first | omega | (dsimp only; omega)))
    | (apply d_grow Tryz.tbOk Tryz.elOk Tryz.xtOk; exact rfl; exact rfl; exact rfl)
    | (apply d_store Tryz.tbOk Tryz.elOk Tryz.xtOk; exact rfl; exact rfl)
    | refine then_x ?_
    | refine then_r ?_
    | refine blk_n ?_
    | refine blk_eq rfl ?_
    | refine blk_ne rfl ?_
    | refine blk_r ?_
    | refine loop_x ?_
    | refine loop_r ?_
    | refine cut_x ?_
    | refine cut_r ?_
    | refine body_ret rfl rfl ?_
    | refine body_end rfl rfl ?_
    | exact (rfl : AEnd.ret _ = AEnd.ret _)
    | exact ⟨rfl, _, rfl⟩
    | exact ⟨rfl, HFin.refl _⟩
    | (rename BD _ _ => hbd; cases hbd)
    | (rename ¬ _ = _ => hq; exact absurd rfl hq))

def cmpI (a b : Int) : Int := if a < b then -1 else if b < a then 1 else 0
theorem cmpI_neg {a b : Int} : cmpI a b < 0 ↔ a < b := by unfold cmpI; split <;> (try split) <;> omega
theorem cmpI_zero {a b : Int} : cmpI a b = 0 ↔ a = b := by unfold cmpI; split <;> (try split) <;> omega
set_option maxRecDepth 100000 in
set_option maxHeartbeats 4000000 in
theorem compare_spec (a b : Int) : PureF Tryz.prog G 31 [.int .i64 a, .int .i64 b] (.int .i64 (cmpI a b)) := by
  refine pure_body Tryz.tbOk Tryz.func31 rfl Tryz.ntmps31 rfl rfl rfl ⟨trivial, trivial, trivial⟩ trivial ?_
  dsimp only [initF]
  repeat' (first
    | refine f_seq ?_
    | refine f_region ?_
    | refine f_draw Tryz.mixed ?_
    | (refine ops_go rfl ?_; first
        | (apply g_callP; exact rfl; exact rfl; exact Tryz.fnOk rfl; exact isNaN_spec G _)
        | (apply g_sum Tryz.tbOk; exact rfl; exact rfl; exact rfl; exact rfl; exact rfl; (constructor <;> omega))
        | (apply g_rem Tryz.tbOk; exact rfl; exact rfl; exact rfl; exact rfl; (first | omega | (dsimp only; omega)))
        | (apply g_quo Tryz.tbOk; exact rfl; exact rfl; exact rfl; exact rfl; (first | omega | (dsimp only; omega)); (constructor <;> omega))
        | (apply g_cat; exact rfl; exact rfl; exact rfl; (first | omega | (simp; done) | (simp; omega)))
        | (apply g_cmp Tryz.tbOk; exact rfl; exact rfl; exact rfl; exact rfl; exact rfl; intro c hc; first | (have hb := BD.yes hc (by omega); subst hb; clear hc) | (have hb := BD.no hc (by omega); subst hb; clear hc) | skip)
        | (apply g_cmpS Tryz.tbOk; exact rfl; exact rfl; exact rfl; exact rfl; intro c hc)
        | (apply g_eqW Tryz.tbOk Tryz.elOk; exact rfl; exact rfl; exact rfl; exact rfl; exact rfl; exact rfl; intro c hc)
        | (apply g_conv Tryz.tbOk; exact rfl; exact rfl; exact rfl; exact rfl; exact rfl; (constructor <;> omega))
        | (apply x_set Tryz.tbOk Tryz.elOk Tryz.xtOk; exact rfl; exact rfl)
        | (apply x_grow Tryz.tbOk Tryz.elOk Tryz.xtOk; exact rfl; exact rfl)
        | (apply x_store Tryz.tbOk Tryz.elOk Tryz.xtOk; exact rfl)
        | (apply x_setN Tryz.tbOk Tryz.elOk Tryz.xtOk; exact rfl)
        | (apply g_ixs Tryz.tbOk; exact rfl; exact rfl; exact rfl; exact rfl; exact rfl; omega)
        | (apply g_ips Tryz.tbOk; exact rfl; exact rfl; exact rfl; exact rfl; exact rfl; exact rfl; exact rfl; (first | omega | (dsimp only; omega)))
        | (apply g_sls Tryz.tbOk; exact rfl; exact rfl; exact rfl; exact rfl; exact rfl; exact rfl; omega)
        | (apply g_ixg Tryz.tbOk; exact rfl; exact rfl; exact rfl; exact rfl; exact rfl; exact rfl; (first | omega | (dsimp only; omega))))
    | refine ops_skip rfl rfl ?_
    | refine ops_nil ?_
    | refine then_n ?_
    | refine f_condT rfl ?_
    | refine f_condF rfl ?_
    | refine f_block ?_
    | refine f_exit ?_
    | refine f_ret ?_
    | refine f_skip ?_
    | refine DrK.nil rfl ?_
    | refine d_skip rfl rfl ?_
    | refine d_skipN rfl ?_
    | (apply d_callP; exact rfl; exact rfl; exact rfl; exact Tryz.fnOk rfl; exact isNaN_spec G _)
    | (apply d_any; exact rfl; exact rfl; exact st_sum Tryz.tbOk rfl rfl rfl rfl (by constructor <;> omega))
    | (refine d_bd rfl rfl (st_cmp Tryz.tbOk rfl rfl rfl rfl) ?_; intro c hc; first | (have hb := BD.yes hc (by omega); subst hb; clear hc) | (have hb := BD.no hc (by omega); subst hb; clear hc) | skip)
    | (refine d_bd rfl rfl (st_cmpS Tryz.tbOk rfl rfl rfl) ?_; intro c hc)
    | (refine d_bd rfl rfl (st_eqW Tryz.tbOk Tryz.elOk rfl rfl rfl rfl rfl) ?_; intro c hc)
    | (apply d_set Tryz.tbOk Tryz.elOk Tryz.xtOk; exact rfl; exact rfl; exact rfl)
    | (apply d_ips Tryz.tbOk; exact rfl; exact rfl; exact rfl; exact rfl; exact rfl; exact rfl; exact rfl; exact rfl; (first | omega | (dsimp only; omega)))
    | (apply d_ixg Tryz.tbOk; exact rfl; exact rfl; exact rfl; exact rfl; exact rfl; exact rfl; exact rfl; (first | omega | (dsimp only; omega)))
    | (apply d_grow Tryz.tbOk Tryz.elOk Tryz.xtOk; exact rfl; exact rfl; exact rfl)
    | (apply d_store Tryz.tbOk Tryz.elOk Tryz.xtOk; exact rfl; exact rfl)
    | refine then_x ?_
    | refine then_r ?_
    | refine blk_n ?_
    | refine blk_eq rfl ?_
    | refine blk_ne rfl ?_
    | refine blk_r ?_
    | refine loop_x ?_
    | refine loop_r ?_
    | refine cut_x ?_
    | refine cut_r ?_
    | refine body_ret rfl rfl ?_
    | refine body_end rfl rfl ?_
    | exact (rfl : AEnd.ret _ = AEnd.ret _)
    | exact ⟨rfl, _, rfl⟩
    | exact ⟨rfl, HFin.refl _⟩
    | (rename BD _ _ => hbd; cases hbd)
    | (rename ¬ _ = _ => hq; exact absurd rfl hq))
  all_goals (congr 2; unfold cmpI; split <;> (try split) <;> omega)

set_option maxRecDepth 100000 in
set_option maxHeartbeats 4000000 in
theorem place1_spec (c : Cn) (t : Int) : PureF Tryz.prog G 30 [c.v, .int .i64 t] (.int .i64 (cmpI c.id t)) := by
  refine pure_body Tryz.tbOk Tryz.func30 rfl Tryz.ntmps30 rfl rfl rfl ⟨⟨trivial, trivial, trivial, trivial, trivial, trivial⟩, trivial, trivial⟩ trivial ?_
  dsimp only [initF]
  repeat' (first
    | refine f_seq ?_
    | refine f_region ?_
    | refine f_draw Tryz.mixed ?_
    | (refine ops_go rfl ?_; first
        | (apply g_callP; exact rfl; exact rfl; exact Tryz.fnOk rfl; exact compare_spec G _ _)
        | (apply g_sum Tryz.tbOk; exact rfl; exact rfl; exact rfl; exact rfl; exact rfl; (constructor <;> omega))
        | (apply g_rem Tryz.tbOk; exact rfl; exact rfl; exact rfl; exact rfl; (first | omega | (dsimp only; omega)))
        | (apply g_quo Tryz.tbOk; exact rfl; exact rfl; exact rfl; exact rfl; (first | omega | (dsimp only; omega)); (constructor <;> omega))
        | (apply g_cat; exact rfl; exact rfl; exact rfl; (first | omega | (simp; done) | (simp; omega)))
        | (apply g_cmp Tryz.tbOk; exact rfl; exact rfl; exact rfl; exact rfl; exact rfl; intro c hc; first | (have hb := BD.yes hc (by omega); subst hb; clear hc) | (have hb := BD.no hc (by omega); subst hb; clear hc) | skip)
        | (apply g_cmpS Tryz.tbOk; exact rfl; exact rfl; exact rfl; exact rfl; intro c hc)
        | (apply g_eqW Tryz.tbOk Tryz.elOk; exact rfl; exact rfl; exact rfl; exact rfl; exact rfl; exact rfl; intro c hc)
        | (apply g_conv Tryz.tbOk; exact rfl; exact rfl; exact rfl; exact rfl; exact rfl; (constructor <;> omega))
        | (apply x_set Tryz.tbOk Tryz.elOk Tryz.xtOk; exact rfl; exact rfl)
        | (apply x_grow Tryz.tbOk Tryz.elOk Tryz.xtOk; exact rfl; exact rfl)
        | (apply x_store Tryz.tbOk Tryz.elOk Tryz.xtOk; exact rfl)
        | (apply x_setN Tryz.tbOk Tryz.elOk Tryz.xtOk; exact rfl)
        | (apply g_ixs Tryz.tbOk; exact rfl; exact rfl; exact rfl; exact rfl; exact rfl; omega)
        | (apply g_ips Tryz.tbOk; exact rfl; exact rfl; exact rfl; exact rfl; exact rfl; exact rfl; exact rfl; (first | omega | (dsimp only; omega)))
        | (apply g_sls Tryz.tbOk; exact rfl; exact rfl; exact rfl; exact rfl; exact rfl; exact rfl; omega)
        | (apply g_ixg Tryz.tbOk; exact rfl; exact rfl; exact rfl; exact rfl; exact rfl; exact rfl; (first | omega | (dsimp only; omega))))
    | refine ops_skip rfl rfl ?_
    | refine ops_nil ?_
    | refine then_n ?_
    | refine f_condT rfl ?_
    | refine f_condF rfl ?_
    | refine f_block ?_
    | refine f_exit ?_
    | refine f_ret ?_
    | refine f_skip ?_
    | refine DrK.nil rfl ?_
    | refine d_skip rfl rfl ?_
    | refine d_skipN rfl ?_
    | (apply d_callP; exact rfl; exact rfl; exact rfl; exact Tryz.fnOk rfl; exact compare_spec G _ _)
    | (apply d_any; exact rfl; exact rfl; exact st_sum Tryz.tbOk rfl rfl rfl rfl (by constructor <;> omega))
    | (refine d_bd rfl rfl (st_cmp Tryz.tbOk rfl rfl rfl rfl) ?_; intro c hc; first | (have hb := BD.yes hc (by omega); subst hb; clear hc) | (have hb := BD.no hc (by omega); subst hb; clear hc) | skip)
    | (refine d_bd rfl rfl (st_cmpS Tryz.tbOk rfl rfl rfl) ?_; intro c hc)
    | (refine d_bd rfl rfl (st_eqW Tryz.tbOk Tryz.elOk rfl rfl rfl rfl rfl) ?_; intro c hc)
    | (apply d_set Tryz.tbOk Tryz.elOk Tryz.xtOk; exact rfl; exact rfl; exact rfl)
    | (apply d_ips Tryz.tbOk; exact rfl; exact rfl; exact rfl; exact rfl; exact rfl; exact rfl; exact rfl; exact rfl; (first | omega | (dsimp only; omega)))
    | (apply d_ixg Tryz.tbOk; exact rfl; exact rfl; exact rfl; exact rfl; exact rfl; exact rfl; exact rfl; (first | omega | (dsimp only; omega)))
    | (apply d_grow Tryz.tbOk Tryz.elOk Tryz.xtOk; exact rfl; exact rfl; exact rfl)
    | (apply d_store Tryz.tbOk Tryz.elOk Tryz.xtOk; exact rfl; exact rfl)
    | refine then_x ?_
    | refine then_r ?_
    | refine blk_n ?_
    | refine blk_eq rfl ?_
    | refine blk_ne rfl ?_
    | refine blk_r ?_
    | refine loop_x ?_
    | refine loop_r ?_
    | refine cut_x ?_
    | refine cut_r ?_
    | refine body_ret rfl rfl ?_
    | refine body_end rfl rfl ?_
    | exact (rfl : AEnd.ret _ = AEnd.ret _)
    | exact ⟨rfl, _, rfl⟩
    | exact ⟨rfl, HFin.refl _⟩
    | (rename BD _ _ => hbd; cases hbd)
    | (rename ¬ _ = _ => hq; exact absurd rfl hq))

set_option maxRecDepth 100000 in
set_option maxHeartbeats 4000000 in
theorem search_nil (t : Int) : PureF Tryz.prog G 29 [.nils, .int .i64 t, .fn (.func 30) [] []] (.tup [.int .i64 0, .bool false]) := by
  refine pure_body Tryz.tbOk Tryz.func29 rfl Tryz.ntmps29 rfl rfl rfl ⟨trivial, trivial, ⟨trivial, trivial⟩, trivial⟩ ⟨trivial, trivial, trivial⟩ ?_
  dsimp only [initF]
  repeat' (first
    | (refine f_rounds (k := 1) ?_; show WP _ _ _ _ _ _ _ _)
    | refine f_seq ?_
    | refine f_region ?_
    | refine f_draw Tryz.mixed ?_
    | (refine ops_go rfl ?_; first
        | (apply g_sum Tryz.tbOk; exact rfl; exact rfl; exact rfl; exact rfl; exact rfl; (constructor <;> omega))
        | (apply g_rem Tryz.tbOk; exact rfl; exact rfl; exact rfl; exact rfl; (first | omega | (dsimp only; omega)))
        | (apply g_quo Tryz.tbOk; exact rfl; exact rfl; exact rfl; exact rfl; (first | omega | (dsimp only; omega)); (constructor <;> omega))
        | (apply g_cat; exact rfl; exact rfl; exact rfl; (first | omega | (simp; done) | (simp; omega)))
        | (apply g_cmp Tryz.tbOk; exact rfl; exact rfl; exact rfl; exact rfl; exact rfl; intro c hc; first | (have hb := BD.yes hc (by omega); subst hb; clear hc) | (have hb := BD.no hc (by omega); subst hb; clear hc) | skip)
        | (apply g_cmpS Tryz.tbOk; exact rfl; exact rfl; exact rfl; exact rfl; intro c hc)
        | (apply g_eqW Tryz.tbOk Tryz.elOk; exact rfl; exact rfl; exact rfl; exact rfl; exact rfl; exact rfl; intro c hc)
        | (apply g_conv Tryz.tbOk; exact rfl; exact rfl; exact rfl; exact rfl; exact rfl; (constructor <;> omega))
        | (apply x_set Tryz.tbOk Tryz.elOk Tryz.xtOk; exact rfl; exact rfl)
        | (apply x_grow Tryz.tbOk Tryz.elOk Tryz.xtOk; exact rfl; exact rfl)
        | (apply x_store Tryz.tbOk Tryz.elOk Tryz.xtOk; exact rfl)
        | (apply x_setN Tryz.tbOk Tryz.elOk Tryz.xtOk; exact rfl)
        | (apply g_ixs Tryz.tbOk; exact rfl; exact rfl; exact rfl; exact rfl; exact rfl; omega)
        | (apply g_ips Tryz.tbOk; exact rfl; exact rfl; exact rfl; exact rfl; exact rfl; exact rfl; exact rfl; (first | omega | (dsimp only; omega)))
        | (apply g_sls Tryz.tbOk; exact rfl; exact rfl; exact rfl; exact rfl; exact rfl; exact rfl; omega)
        | (apply g_ixg Tryz.tbOk; exact rfl; exact rfl; exact rfl; exact rfl; exact rfl; exact rfl; (first | omega | (dsimp only; omega))))
    | refine ops_skip rfl rfl ?_
    | refine ops_nil ?_
    | refine then_n ?_
    | refine f_condT rfl ?_
    | refine f_condF rfl ?_
    | refine f_block ?_
    | refine f_exit ?_
    | refine f_ret ?_
    | refine f_skip ?_
    | refine DrK.nil rfl ?_
    | refine d_skip rfl rfl ?_
    | refine d_skipN rfl ?_
    | (apply d_any; exact rfl; exact rfl; exact st_sum Tryz.tbOk rfl rfl rfl rfl (by constructor <;> omega))
    | (refine d_bd rfl rfl (st_cmp Tryz.tbOk rfl rfl rfl rfl) ?_; intro c hc; first | (have hb := BD.yes hc (by omega); subst hb; clear hc) | (have hb := BD.no hc (by omega); subst hb; clear hc) | skip)
    | (refine d_bd rfl rfl (st_cmpS Tryz.tbOk rfl rfl rfl) ?_; intro c hc)
    | (refine d_bd rfl rfl (st_eqW Tryz.tbOk Tryz.elOk rfl rfl rfl rfl rfl) ?_; intro c hc)
    | (apply d_set Tryz.tbOk Tryz.elOk Tryz.xtOk; exact rfl; exact rfl; exact rfl)
    | (apply d_ips Tryz.tbOk; exact rfl; exact rfl; exact rfl; exact rfl; exact rfl; exact rfl; exact rfl; exact rfl; (first | omega | (dsimp only; omega)))
    | (apply d_ixg Tryz.tbOk; exact rfl; exact rfl; exact rfl; exact rfl; exact rfl; exact rfl; exact rfl; (first | omega | (dsimp only; omega)))
    | (apply d_grow Tryz.tbOk Tryz.elOk Tryz.xtOk; exact rfl; exact rfl; exact rfl)
    | (apply d_store Tryz.tbOk Tryz.elOk Tryz.xtOk; exact rfl; exact rfl)
    | refine then_x ?_
    | refine then_r ?_
    | refine blk_n ?_
    | refine blk_eq rfl ?_
    | refine blk_ne rfl ?_
    | refine blk_r ?_
    | refine loop_x ?_
    | refine loop_r ?_
    | refine cut_x ?_
    | refine cut_r ?_
    | refine body_ret rfl rfl ?_
    | refine body_end rfl rfl ?_
    | exact (rfl : AEnd.ret _ = AEnd.ret _)
    | exact ⟨rfl, _, rfl⟩
    | exact ⟨rfl, HFin.refl _⟩
    | (rename BD _ _ => hbd; cases hbd)
    | (rename ¬ _ = _ => hq; exact absurd rfl hq))

def Tryz.lv29 : List (List Nat) := [[0, 1, 2], [0, 1, 2], [0, 1, 2, 8], [0, 1, 2, 8, 9, 10], [0, 1, 2, 8, 9, 10], [0, 1, 2, 8, 9, 10, 11], [0, 1, 2, 8, 10, 11], [0, 1, 2, 8, 9, 11], [0, 1, 2, 8, 9]]
set_option maxRecDepth 100000 in
set_option maxHeartbeats 4000000 in
theorem search_spec (l : List Cn) (t : Int) (p : Nat) (f : Bool) (hl : l.length ≤ 1000000) (hp : p ≤ l.length) (hb : ∀ k x, l[k]? = some x → (x.id < t ↔ k < p)) (hf : f = true ↔ ∃ x, l[p]? = some x ∧ x.id = t) :
    RetTo Tryz.prog G 29 [.slc 0 0 l.length (.opn 0 0), .int .i64 t, .fn (.func 30) [] []] [aObj l] (.tup [.int .i64 p, .bool f]) [aObj l] := by
  have hgr := cnGr
  refine RetTo.drop (call_body Tryz.tbOk Tryz.func29 rfl Tryz.ntmps29 rfl rfl rfl ?_) (by ((repeat' (first | exact trivial | assumption | exact AVs.le_mono (Nat.le_of_ble_eq_true rfl) _ (by assumption) | exact Nat.le_of_ble_eq_true rfl | exact Enc.Gr.le (by assumption) _ _ | exact gr_le (by assumption) _ | exact InSl.le (by assumption) _ | refine ⟨?_, ?_⟩)); (first | done | fail)))
  dsimp only [initF, List.length_cons, List.length_nil, Nat.zero_add]
  repeat' (first
    | refine f_seq ?_
    | (refine f_regionL Tryz.lv29 ?_; show opsWP _ _ _ _ _ _ _ _ _)
    | (refine f_drawL Tryz.lv29 Tryz.mixed ?_; show DrK _ _ _ _ _ _ _ _ _ _)
    | (refine ops_go rfl ?_; first
        | (apply g_sum Tryz.tbOk; exact rfl; exact rfl; exact rfl; exact rfl; exact rfl; (constructor <;> omega))
        | (apply g_rem Tryz.tbOk; exact rfl; exact rfl; exact rfl; exact rfl; (first | omega | (dsimp only; omega)))
        | (apply g_quo Tryz.tbOk; exact rfl; exact rfl; exact rfl; exact rfl; (first | omega | (dsimp only; omega)); (constructor <;> omega))
        | (apply g_cat; exact rfl; exact rfl; exact rfl; (first | omega | (simp; done) | (simp; omega)))
        | (apply g_cmp Tryz.tbOk; exact rfl; exact rfl; exact rfl; exact rfl; exact rfl; intro c hc; first | (have hb := BD.yes hc (by omega); subst hb; clear hc) | (have hb := BD.no hc (by omega); subst hb; clear hc) | skip)
        | (apply g_cmpS Tryz.tbOk; exact rfl; exact rfl; exact rfl; exact rfl; intro c hc)
        | (apply g_eqW Tryz.tbOk Tryz.elOk; exact rfl; exact rfl; exact rfl; exact rfl; exact rfl; exact rfl; intro c hc)
        | (apply g_conv Tryz.tbOk; exact rfl; exact rfl; exact rfl; exact rfl; exact rfl; (constructor <;> omega))
        | (apply x_set Tryz.tbOk Tryz.elOk Tryz.xtOk; exact rfl; exact rfl)
        | (apply x_grow Tryz.tbOk Tryz.elOk Tryz.xtOk; exact rfl; exact rfl)
        | (apply x_store Tryz.tbOk Tryz.elOk Tryz.xtOk; exact rfl)
        | (apply x_setN Tryz.tbOk Tryz.elOk Tryz.xtOk; exact rfl)
        | (apply g_ixs Tryz.tbOk; exact rfl; exact rfl; exact rfl; exact rfl; exact rfl; omega)
        | (apply g_ips Tryz.tbOk; exact rfl; exact rfl; exact rfl; exact rfl; exact rfl; exact rfl; exact rfl; (first | omega | (dsimp only; omega)))
        | (apply g_sls Tryz.tbOk; exact rfl; exact rfl; exact rfl; exact rfl; exact rfl; exact rfl; omega)
        | (apply g_ixg Tryz.tbOk; exact rfl; exact rfl; exact rfl; exact rfl; exact rfl; exact rfl; (first | omega | (dsimp only; omega))))
    | refine ops_skip rfl rfl ?_
    | refine ops_nil ?_
    | refine then_n ?_
    | refine f_condT rfl ?_
    | refine f_condF rfl ?_
    | refine f_block ?_
    | refine f_exit ?_
    | refine f_ret ?_
    | refine f_skip ?_
    | refine DrK.nil rfl ?_
    | refine d_skip rfl rfl ?_
    | refine d_skipN rfl ?_
    | (apply d_any; exact rfl; exact rfl; exact st_sum Tryz.tbOk rfl rfl rfl rfl (by constructor <;> omega))
    | (refine d_bd rfl rfl (st_cmp Tryz.tbOk rfl rfl rfl rfl) ?_; intro c hc; first | (have hb := BD.yes hc (by omega); subst hb; clear hc) | (have hb := BD.no hc (by omega); subst hb; clear hc) | skip)
    | (refine d_bd rfl rfl (st_cmpS Tryz.tbOk rfl rfl rfl) ?_; intro c hc)
    | (refine d_bd rfl rfl (st_eqW Tryz.tbOk Tryz.elOk rfl rfl rfl rfl rfl) ?_; intro c hc)
    | (apply d_set Tryz.tbOk Tryz.elOk Tryz.xtOk; exact rfl; exact rfl; exact rfl)
    | (apply d_ips Tryz.tbOk; exact rfl; exact rfl; exact rfl; exact rfl; exact rfl; exact rfl; exact rfl; exact rfl; (first | omega | (dsimp only; omega)))
    | (apply d_ixg Tryz.tbOk; exact rfl; exact rfl; exact rfl; exact rfl; exact rfl; exact rfl; exact rfl; (first | omega | (dsimp only; omega)))
    | (apply d_grow Tryz.tbOk Tryz.elOk Tryz.xtOk; exact rfl; exact rfl; exact rfl)
    | (apply d_store Tryz.tbOk Tryz.elOk Tryz.xtOk; exact rfl; exact rfl)
    | refine then_x ?_
    | refine then_r ?_
    | refine blk_n ?_
    | refine blk_eq rfl ?_
    | refine blk_ne rfl ?_
    | refine blk_r ?_
    | refine loop_x ?_
    | refine loop_r ?_
    | refine cut_x ?_
    | refine cut_r ?_
    | refine body_ret rfl rfl ?_
    | refine body_end rfl rfl ?_
    | exact (rfl : AEnd.ret _ = AEnd.ret _)
    | exact ⟨rfl, _, rfl⟩
    | exact ⟨rfl, HFin.refl _⟩
    | (rename BD _ _ => hbd; cases hbd)
    | (rename ¬ _ = _ => hq; exact absurd rfl hq))
  refine f_loopC (fun x : Nat × Nat => [(0, .slc 0 0 l.length (.opn 0 0)), (1, .int .i64 t), (2, .fn (.func 30) [] []), (8, .int .i64 l.length), (9, .int .i64 x.1), (10, .int .i64 x.2)])
      (fun x => x.1 ≤ p ∧ p ≤ x.2 ∧ x.2 ≤ l.length) (fun x => x.2 - x.1) (0, l.length) ⟨by simp, hp, by simp⟩ ⟨rfl, rfl, rfl, rfl, rfl, rfl, trivial⟩ (fun _ => rfl) rfl (fun _ _ => (by ((repeat' (first | exact trivial | assumption | exact AVs.le_mono (Nat.le_of_ble_eq_true rfl) _ (by assumption) | exact Nat.le_of_ble_eq_true rfl | exact Enc.Gr.le (by assumption) _ _ | exact gr_le (by assumption) _ | exact InSl.le (by assumption) _ | refine ⟨?_, ?_⟩)); (first | done | fail)))) ?_
  rintro ⟨i, j⟩ ⟨h1, h2, h3⟩
  dsimp only at h1 h2 h3
  rcases Nat.lt_or_ge i j with hlt | hge
  · obtain ⟨x, hx⟩ : ∃ x, l[(i + j) / 2]? = some x := ⟨_, List.getElem?_eq_getElem (by omega)⟩
    have hbx := hb _ _ hx
    repeat' (first
      | refine f_seq ?_
      | (refine f_regionL Tryz.lv29 ?_; show opsWP _ _ _ _ _ _ _ _ _)
      | (refine f_drawL Tryz.lv29 Tryz.mixed ?_; show DrK _ _ _ _ _ _ _ _ _ _)
      | (refine ops_go rfl ?_; first
          | (apply g_shr 2 Tryz.tbOk; exact rfl; exact rfl; exact rfl; decide; exact rfl)
          | (apply g_load Tryz.tbOk; exact rfl; exact rfl; exact rfl; exact rfl; exact cnE.load_row hx rfl rfl (by dsimp only; omega))
          | (apply g_callP; exact rfl; exact rfl; exact Tryz.fnOk rfl; exact place1_spec G x t)
          | (apply g_sum Tryz.tbOk; exact rfl; exact rfl; exact rfl; exact rfl; exact rfl; (constructor <;> omega))
          | (apply g_rem Tryz.tbOk; exact rfl; exact rfl; exact rfl; exact rfl; (first | omega | (dsimp only; omega)))
          | (apply g_quo Tryz.tbOk; exact rfl; exact rfl; exact rfl; exact rfl; (first | omega | (dsimp only; omega)); (constructor <;> omega))
          | (apply g_cat; exact rfl; exact rfl; exact rfl; (first | omega | (simp; done) | (simp; omega)))
          | (apply g_cmp Tryz.tbOk; exact rfl; exact rfl; exact rfl; exact rfl; exact rfl; intro c hc; first | (have hb := BD.yes hc (by omega); subst hb; clear hc) | (have hb := BD.no hc (by omega); subst hb; clear hc) | skip)
          | (apply g_cmpS Tryz.tbOk; exact rfl; exact rfl; exact rfl; exact rfl; intro c hc)
          | (apply g_eqW Tryz.tbOk Tryz.elOk; exact rfl; exact rfl; exact rfl; exact rfl; exact rfl; exact rfl; intro c hc)
          | (apply g_conv Tryz.tbOk; exact rfl; exact rfl; exact rfl; exact rfl; exact rfl; (constructor <;> omega))
          | (apply x_set Tryz.tbOk Tryz.elOk Tryz.xtOk; exact rfl; exact rfl)
          | (apply x_grow Tryz.tbOk Tryz.elOk Tryz.xtOk; exact rfl; exact rfl)
          | (apply x_store Tryz.tbOk Tryz.elOk Tryz.xtOk; exact rfl)
          | (apply x_setN Tryz.tbOk Tryz.elOk Tryz.xtOk; exact rfl)
          | (apply g_ixs Tryz.tbOk; exact rfl; exact rfl; exact rfl; exact rfl; exact rfl; omega)
          | (apply g_ips Tryz.tbOk; exact rfl; exact rfl; exact rfl; exact rfl; exact rfl; exact rfl; exact rfl; (first | omega | (dsimp only; omega)))
          | (apply g_sls Tryz.tbOk; exact rfl; exact rfl; exact rfl; exact rfl; exact rfl; exact rfl; omega)
          | (apply g_ixg Tryz.tbOk; exact rfl; exact rfl; exact rfl; exact rfl; exact rfl; exact rfl; (first | omega | (dsimp only; omega))))
      | refine ops_skip rfl rfl ?_
      | refine ops_nil ?_
      | refine then_n ?_
      | refine f_condT rfl ?_
      | refine f_condF rfl ?_
      | refine f_block ?_
      | refine f_exit ?_
      | refine f_ret ?_
      | refine f_skip ?_
      | refine DrK.nil rfl ?_
      | refine d_skip rfl rfl ?_
      | refine d_skipN rfl ?_
      | (apply d_load Tryz.tbOk; exact rfl; exact rfl; exact rfl; exact rfl; exact rfl; exact cnE.load_row hx rfl rfl (by dsimp only; omega))
      | (apply d_callP; exact rfl; exact rfl; exact rfl; exact Tryz.fnOk rfl; exact place1_spec G x t)
      | (apply d_any; exact rfl; exact rfl; exact st_sum Tryz.tbOk rfl rfl rfl rfl (by constructor <;> omega))
      | (refine d_bd rfl rfl (st_cmp Tryz.tbOk rfl rfl rfl rfl) ?_; intro c hc; first | (have hb := BD.yes hc (by omega); subst hb; clear hc) | (have hb := BD.no hc (by omega); subst hb; clear hc) | skip)
      | (refine d_bd rfl rfl (st_cmpS Tryz.tbOk rfl rfl rfl) ?_; intro c hc)
      | (refine d_bd rfl rfl (st_eqW Tryz.tbOk Tryz.elOk rfl rfl rfl rfl rfl) ?_; intro c hc)
      | (apply d_set Tryz.tbOk Tryz.elOk Tryz.xtOk; exact rfl; exact rfl; exact rfl)
      | (apply d_ips Tryz.tbOk; exact rfl; exact rfl; exact rfl; exact rfl; exact rfl; exact rfl; exact rfl; exact rfl; (first | omega | (dsimp only; omega)))
      | (apply d_ixg Tryz.tbOk; exact rfl; exact rfl; exact rfl; exact rfl; exact rfl; exact rfl; exact rfl; (first | omega | (dsimp only; omega)))
      | (apply d_grow Tryz.tbOk Tryz.elOk Tryz.xtOk; exact rfl; exact rfl; exact rfl)
      | (apply d_store Tryz.tbOk Tryz.elOk Tryz.xtOk; exact rfl; exact rfl)
      | refine then_x ?_
      | refine then_r ?_
      | refine blk_n ?_
      | refine blk_eq rfl ?_
      | refine blk_ne rfl ?_
      | refine blk_r ?_
      | refine loop_x ?_
      | refine loop_r ?_
      | refine cut_x ?_
      | refine cut_r ?_
      | refine body_ret rfl rfl ?_
      | refine body_end rfl rfl ?_
      | exact (rfl : AEnd.ret _ = AEnd.ret _)
      | exact ⟨rfl, _, rfl⟩
      | exact ⟨rfl, HFin.refl _⟩
      | (rename BD _ _ => hbd; cases hbd)
      | (rename ¬ _ = _ => hq; exact absurd rfl hq))
    · rename_i q
      rw [cmpI_neg] at q
      exact loop_c ((i + j) / 2 + 1, j) ⟨by dsimp only; omega, by dsimp only; omega, h3⟩ (by dsimp only; omega) ⟨rfl, rfl, rfl, rfl, rfl, rfl, trivial⟩ rfl ⟨_, rfl⟩
    · rename_i q
      rw [cmpI_neg] at q
      exact loop_c (i, (i + j) / 2) ⟨h1, by dsimp only; omega, by dsimp only; omega⟩ (by dsimp only; omega) ⟨rfl, rfl, rfl, rfl, rfl, rfl, trivial⟩ rfl ⟨_, rfl⟩
  · obtain rfl : i = p := by omega
    obtain rfl : j = i := by omega
    rcases Nat.lt_or_ge j l.length with hi | hi
    · obtain ⟨x, hx⟩ : ∃ x, l[j]? = some x := ⟨_, List.getElem?_eq_getElem hi⟩
      have hfx : f = true ↔ x.id = t := by rw [hf]; simp [hx]
      repeat' (first
        | refine f_seq ?_
        | (refine f_regionL Tryz.lv29 ?_; show opsWP _ _ _ _ _ _ _ _ _)
        | (refine f_drawL Tryz.lv29 Tryz.mixed ?_; show DrK _ _ _ _ _ _ _ _ _ _)
        | (refine ops_go rfl ?_; first
            | (apply g_load Tryz.tbOk; exact rfl; exact rfl; exact rfl; exact rfl; exact cnE.load_row hx rfl rfl (by dsimp only; omega))
            | (apply g_callP; exact rfl; exact rfl; exact Tryz.fnOk rfl; exact place1_spec G x t)
            | (apply g_sum Tryz.tbOk; exact rfl; exact rfl; exact rfl; exact rfl; exact rfl; (constructor <;> omega))
            | (apply g_rem Tryz.tbOk; exact rfl; exact rfl; exact rfl; exact rfl; (first | omega | (dsimp only; omega)))
            | (apply g_quo Tryz.tbOk; exact rfl; exact rfl; exact rfl; exact rfl; (first | omega | (dsimp only; omega)); (constructor <;> omega))
            | (apply g_cat; exact rfl; exact rfl; exact rfl; (first | omega | (simp; done) | (simp; omega)))
            | (apply g_cmp Tryz.tbOk; exact rfl; exact rfl; exact rfl; exact rfl; exact rfl; intro c hc; first | (have hb := BD.yes hc (by omega); subst hb; clear hc) | (have hb := BD.no hc (by omega); subst hb; clear hc) | skip)
            | (apply g_cmpS Tryz.tbOk; exact rfl; exact rfl; exact rfl; exact rfl; intro c hc)
            | (apply g_eqW Tryz.tbOk Tryz.elOk; exact rfl; exact rfl; exact rfl; exact rfl; exact rfl; exact rfl; intro c hc)
            | (apply g_conv Tryz.tbOk; exact rfl; exact rfl; exact rfl; exact rfl; exact rfl; (constructor <;> omega))
            | (apply x_set Tryz.tbOk Tryz.elOk Tryz.xtOk; exact rfl; exact rfl)
            | (apply x_grow Tryz.tbOk Tryz.elOk Tryz.xtOk; exact rfl; exact rfl)
            | (apply x_store Tryz.tbOk Tryz.elOk Tryz.xtOk; exact rfl)
            | (apply x_setN Tryz.tbOk Tryz.elOk Tryz.xtOk; exact rfl)
            | (apply g_ixs Tryz.tbOk; exact rfl; exact rfl; exact rfl; exact rfl; exact rfl; omega)
            | (apply g_ips Tryz.tbOk; exact rfl; exact rfl; exact rfl; exact rfl; exact rfl; exact rfl; exact rfl; (first | omega | (dsimp only; omega)))
            | (apply g_sls Tryz.tbOk; exact rfl; exact rfl; exact rfl; exact rfl; exact rfl; exact rfl; omega)
            | (apply g_ixg Tryz.tbOk; exact rfl; exact rfl; exact rfl; exact rfl; exact rfl; exact rfl; (first | omega | (dsimp only; omega))))
        | refine ops_skip rfl rfl ?_
        | refine ops_nil ?_
        | refine then_n ?_
        | refine f_condT rfl ?_
        | refine f_condF rfl ?_
        | refine f_block ?_
        | refine f_exit ?_
        | refine f_ret ?_
        | refine f_skip ?_
        | refine DrK.nil rfl ?_
        | refine d_skip rfl rfl ?_
        | refine d_skipN rfl ?_
        | (apply d_load Tryz.tbOk; exact rfl; exact rfl; exact rfl; exact rfl; exact rfl; exact cnE.load_row hx rfl rfl (by dsimp only; omega))
        | (apply d_callP; exact rfl; exact rfl; exact rfl; exact Tryz.fnOk rfl; exact place1_spec G x t)
        | (apply d_any; exact rfl; exact rfl; exact st_sum Tryz.tbOk rfl rfl rfl rfl (by constructor <;> omega))
        | (refine d_bd rfl rfl (st_cmp Tryz.tbOk rfl rfl rfl rfl) ?_; intro c hc; first | (have hb := BD.yes hc (by omega); subst hb; clear hc) | (have hb := BD.no hc (by omega); subst hb; clear hc) | skip)
        | (refine d_bd rfl rfl (st_cmpS Tryz.tbOk rfl rfl rfl) ?_; intro c hc)
        | (refine d_bd rfl rfl (st_eqW Tryz.tbOk Tryz.elOk rfl rfl rfl rfl rfl) ?_; intro c hc)
        | (apply d_set Tryz.tbOk Tryz.elOk Tryz.xtOk; exact rfl; exact rfl; exact rfl)
        | (apply d_ips Tryz.tbOk; exact rfl; exact rfl; exact rfl; exact rfl; exact rfl; exact rfl; exact rfl; exact rfl; (first | omega | (dsimp only; omega)))
        | (apply d_ixg Tryz.tbOk; exact rfl; exact rfl; exact rfl; exact rfl; exact rfl; exact rfl; exact rfl; (first | omega | (dsimp only; omega)))
        | (apply d_grow Tryz.tbOk Tryz.elOk Tryz.xtOk; exact rfl; exact rfl; exact rfl)
        | (apply d_store Tryz.tbOk Tryz.elOk Tryz.xtOk; exact rfl; exact rfl)
        | refine then_x ?_
        | refine then_r ?_
        | refine blk_n ?_
        | refine blk_eq rfl ?_
        | refine blk_ne rfl ?_
        | refine blk_r ?_
        | refine loop_x ?_
        | refine loop_r ?_
        | refine cut_x ?_
        | refine cut_r ?_
        | refine body_ret rfl rfl ?_
        | refine body_end rfl rfl ?_
        | exact (rfl : AEnd.ret _ = AEnd.ret _)
        | exact ⟨rfl, _, rfl⟩
        | exact ⟨rfl, HFin.refl _⟩
        | (rename BD _ _ => hbd; cases hbd)
        | (rename ¬ _ = _ => hq; exact absurd rfl hq))
      · rename_i q
        rw [cmpI_zero] at q
        rw [hfx.2 q]; exact ⟨rfl, _, rfl⟩
      · rename_i q
        rw [cmpI_zero] at q
        have : f = false := by cases f with
          | false => rfl
          | true => exact absurd (hfx.1 rfl) q
        rw [this]; exact ⟨rfl, _, rfl⟩
    · have hff : f = false := by
        cases f with
        | false => rfl
        | true => obtain ⟨x, hx, _⟩ := hf.1 rfl; rw [List.getElem?_eq_none hi] at hx; simp at hx
      subst hff
      repeat' (first
        | refine f_seq ?_
        | (refine f_regionL Tryz.lv29 ?_; show opsWP _ _ _ _ _ _ _ _ _)
        | (refine f_drawL Tryz.lv29 Tryz.mixed ?_; show DrK _ _ _ _ _ _ _ _ _ _)
        | (refine ops_go rfl ?_; first
            | (apply g_sum Tryz.tbOk; exact rfl; exact rfl; exact rfl; exact rfl; exact rfl; (constructor <;> omega))
            | (apply g_rem Tryz.tbOk; exact rfl; exact rfl; exact rfl; exact rfl; (first | omega | (dsimp only; omega)))
            | (apply g_quo Tryz.tbOk; exact rfl; exact rfl; exact rfl; exact rfl; (first | omega | (dsimp only; omega)); (constructor <;> omega))
            | (apply g_cat; exact rfl; exact rfl; exact rfl; (first | omega | (simp; done) | (simp; omega)))
            | (apply g_cmp Tryz.tbOk; exact rfl; exact rfl; exact rfl; exact rfl; exact rfl; intro c hc; first | (have hb := BD.yes hc (by omega); subst hb; clear hc) | (have hb := BD.no hc (by omega); subst hb; clear hc) | skip)
            | (apply g_cmpS Tryz.tbOk; exact rfl; exact rfl; exact rfl; exact rfl; intro c hc)
            | (apply g_eqW Tryz.tbOk Tryz.elOk; exact rfl; exact rfl; exact rfl; exact rfl; exact rfl; exact rfl; intro c hc)
            | (apply g_conv Tryz.tbOk; exact rfl; exact rfl; exact rfl; exact rfl; exact rfl; (constructor <;> omega))
            | (apply x_set Tryz.tbOk Tryz.elOk Tryz.xtOk; exact rfl; exact rfl)
            | (apply x_grow Tryz.tbOk Tryz.elOk Tryz.xtOk; exact rfl; exact rfl)
            | (apply x_store Tryz.tbOk Tryz.elOk Tryz.xtOk; exact rfl)
            | (apply x_setN Tryz.tbOk Tryz.elOk Tryz.xtOk; exact rfl)
            | (apply g_ixs Tryz.tbOk; exact rfl; exact rfl; exact rfl; exact rfl; exact rfl; omega)
            | (apply g_ips Tryz.tbOk; exact rfl; exact rfl; exact rfl; exact rfl; exact rfl; exact rfl; exact rfl; (first | omega | (dsimp only; omega)))
            | (apply g_sls Tryz.tbOk; exact rfl; exact rfl; exact rfl; exact rfl; exact rfl; exact rfl; omega)
            | (apply g_ixg Tryz.tbOk; exact rfl; exact rfl; exact rfl; exact rfl; exact rfl; exact rfl; (first | omega | (dsimp only; omega))))
        | refine ops_skip rfl rfl ?_
        | refine ops_nil ?_
        | refine then_n ?_
        | refine f_condT rfl ?_
        | refine f_condF rfl ?_
        | refine f_block ?_
        | refine f_exit ?_
        | refine f_ret ?_
        | refine f_skip ?_
        | refine DrK.nil rfl ?_
        | refine d_skip rfl rfl ?_
        | refine d_skipN rfl ?_
        | (apply d_any; exact rfl; exact rfl; exact st_sum Tryz.tbOk rfl rfl rfl rfl (by constructor <;> omega))
        | (refine d_bd rfl rfl (st_cmp Tryz.tbOk rfl rfl rfl rfl) ?_; intro c hc; first | (have hb := BD.yes hc (by omega); subst hb; clear hc) | (have hb := BD.no hc (by omega); subst hb; clear hc) | skip)
        | (refine d_bd rfl rfl (st_cmpS Tryz.tbOk rfl rfl rfl) ?_; intro c hc)
        | (refine d_bd rfl rfl (st_eqW Tryz.tbOk Tryz.elOk rfl rfl rfl rfl rfl) ?_; intro c hc)
        | (apply d_set Tryz.tbOk Tryz.elOk Tryz.xtOk; exact rfl; exact rfl; exact rfl)
        | (apply d_ips Tryz.tbOk; exact rfl; exact rfl; exact rfl; exact rfl; exact rfl; exact rfl; exact rfl; exact rfl; (first | omega | (dsimp only; omega)))
        | (apply d_ixg Tryz.tbOk; exact rfl; exact rfl; exact rfl; exact rfl; exact rfl; exact rfl; exact rfl; (first | omega | (dsimp only; omega)))
        | (apply d_grow Tryz.tbOk Tryz.elOk Tryz.xtOk; exact rfl; exact rfl; exact rfl)
        | (apply d_store Tryz.tbOk Tryz.elOk Tryz.xtOk; exact rfl; exact rfl)
        | refine then_x ?_
        | refine then_r ?_
        | refine blk_n ?_
        | refine blk_eq rfl ?_
        | refine blk_ne rfl ?_
        | refine blk_r ?_
        | refine loop_x ?_
        | refine loop_r ?_
        | refine cut_x ?_
        | refine cut_r ?_
        | refine body_ret rfl rfl ?_
        | refine body_end rfl rfl ?_
        | exact (rfl : AEnd.ret _ = AEnd.ret _)
        | exact ⟨rfl, _, rfl⟩
        | exact ⟨rfl, HFin.refl _⟩
        | (rename BD _ _ => hbd; cases hbd)
        | (rename ¬ _ = _ => hq; exact absurd rfl hq))

set_option maxRecDepth 100000 in
set_option maxHeartbeats 4000000 in
theorem place_spec (l : List Cn) (sv : AV) (next : Int) (t : Int) (p : Nat) (f : Bool) (hl : l.length ≤ 1000000) (hs : slOk sv l) (hp : p ≤ l.length) (hb : ∀ k x, l[k]? = some x → (x.id < t ↔ k < p)) (hf : f = true ↔ ∃ x, l[p]? = some x ∧ x.id = t) :
    RetTo Tryz.prog G 23 [.ptr 0 0, .int .i64 t] [cObj sv next, aObj l] (.tup [.int .i64 p, .bool f]) [cObj sv next, aObj l] := by
  have hgr := cnGr
  refine RetTo.drop (call_body Tryz.tbOk Tryz.func23 rfl Tryz.ntmps23 rfl rfl rfl ?_) (by ((repeat' (first | exact trivial | assumption | exact AVs.le_mono (Nat.le_of_ble_eq_true rfl) _ (by assumption) | exact Nat.le_of_ble_eq_true rfl | exact Enc.Gr.le (by assumption) _ _ | exact gr_le (by assumption) _ | exact InSl.le (by assumption) _ | refine ⟨?_, ?_⟩)); (first | done | fail)))
  dsimp only [initF, List.length_cons, List.length_nil, Nat.zero_add]
  rcases hs with ⟨rfl, rfl⟩ | rfl
  · obtain rfl : p = 0 := by simpa using hp
    obtain rfl : f = false := by simpa using hf
    repeat' (first
      | refine f_seq ?_
      | refine f_region ?_
      | refine f_draw Tryz.mixed ?_
      | (refine ops_go rfl ?_; first
          | (apply g_callP; exact rfl; exact rfl; exact Tryz.fnOk rfl; exact search_nil G t)
          | (apply g_sum Tryz.tbOk; exact rfl; exact rfl; exact rfl; exact rfl; exact rfl; (constructor <;> omega))
          | (apply g_rem Tryz.tbOk; exact rfl; exact rfl; exact rfl; exact rfl; (first | omega | (dsimp only; omega)))
          | (apply g_quo Tryz.tbOk; exact rfl; exact rfl; exact rfl; exact rfl; (first | omega | (dsimp only; omega)); (constructor <;> omega))
          | (apply g_cat; exact rfl; exact rfl; exact rfl; (first | omega | (simp; done) | (simp; omega)))
          | (apply g_cmp Tryz.tbOk; exact rfl; exact rfl; exact rfl; exact rfl; exact rfl; intro c hc; first | (have hb := BD.yes hc (by omega); subst hb; clear hc) | (have hb := BD.no hc (by omega); subst hb; clear hc) | skip)
          | (apply g_cmpS Tryz.tbOk; exact rfl; exact rfl; exact rfl; exact rfl; intro c hc)
          | (apply g_eqW Tryz.tbOk Tryz.elOk; exact rfl; exact rfl; exact rfl; exact rfl; exact rfl; exact rfl; intro c hc)
          | (apply g_conv Tryz.tbOk; exact rfl; exact rfl; exact rfl; exact rfl; exact rfl; (constructor <;> omega))
          | (apply x_set Tryz.tbOk Tryz.elOk Tryz.xtOk; exact rfl; exact rfl)
          | (apply x_grow Tryz.tbOk Tryz.elOk Tryz.xtOk; exact rfl; exact rfl)
          | (apply x_store Tryz.tbOk Tryz.elOk Tryz.xtOk; exact rfl)
          | (apply x_setN Tryz.tbOk Tryz.elOk Tryz.xtOk; exact rfl)
          | (apply g_ixs Tryz.tbOk; exact rfl; exact rfl; exact rfl; exact rfl; exact rfl; omega)
          | (apply g_ips Tryz.tbOk; exact rfl; exact rfl; exact rfl; exact rfl; exact rfl; exact rfl; exact rfl; (first | omega | (dsimp only; omega)))
          | (apply g_sls Tryz.tbOk; exact rfl; exact rfl; exact rfl; exact rfl; exact rfl; exact rfl; omega)
          | (apply g_ixg Tryz.tbOk; exact rfl; exact rfl; exact rfl; exact rfl; exact rfl; exact rfl; (first | omega | (dsimp only; omega))))
      | refine ops_skip rfl rfl ?_
      | refine ops_nil ?_
      | refine then_n ?_
      | refine f_condT rfl ?_
      | refine f_condF rfl ?_
      | refine f_block ?_
      | refine f_exit ?_
      | refine f_ret ?_
      | refine f_skip ?_
      | refine DrK.nil rfl ?_
      | refine d_skip rfl rfl ?_
      | refine d_skipN rfl ?_
      | (apply d_callP; exact rfl; exact rfl; exact rfl; exact Tryz.fnOk rfl; exact search_nil G t)
      | (apply d_any; exact rfl; exact rfl; exact st_sum Tryz.tbOk rfl rfl rfl rfl (by constructor <;> omega))
      | (refine d_bd rfl rfl (st_cmp Tryz.tbOk rfl rfl rfl rfl) ?_; intro c hc; first | (have hb := BD.yes hc (by omega); subst hb; clear hc) | (have hb := BD.no hc (by omega); subst hb; clear hc) | skip)
      | (refine d_bd rfl rfl (st_cmpS Tryz.tbOk rfl rfl rfl) ?_; intro c hc)
      | (refine d_bd rfl rfl (st_eqW Tryz.tbOk Tryz.elOk rfl rfl rfl rfl rfl) ?_; intro c hc)
      | (apply d_set Tryz.tbOk Tryz.elOk Tryz.xtOk; exact rfl; exact rfl; exact rfl)
      | (apply d_ips Tryz.tbOk; exact rfl; exact rfl; exact rfl; exact rfl; exact rfl; exact rfl; exact rfl; exact rfl; (first | omega | (dsimp only; omega)))
      | (apply d_ixg Tryz.tbOk; exact rfl; exact rfl; exact rfl; exact rfl; exact rfl; exact rfl; exact rfl; (first | omega | (dsimp only; omega)))
      | (apply d_grow Tryz.tbOk Tryz.elOk Tryz.xtOk; exact rfl; exact rfl; exact rfl)
      | (apply d_store Tryz.tbOk Tryz.elOk Tryz.xtOk; exact rfl; exact rfl)
      | refine then_x ?_
      | refine then_r ?_
      | refine blk_n ?_
      | refine blk_eq rfl ?_
      | refine blk_ne rfl ?_
      | refine blk_r ?_
      | refine loop_x ?_
      | refine loop_r ?_
      | refine cut_x ?_
      | refine cut_r ?_
      | refine body_ret rfl rfl ?_
      | refine body_end rfl rfl ?_
      | exact (rfl : AEnd.ret _ = AEnd.ret _)
      | exact ⟨rfl, _, rfl⟩
      | exact ⟨rfl, HFin.refl _⟩
      | (rename BD _ _ => hbd; cases hbd)
      | (rename ¬ _ = _ => hq; exact absurd rfl hq))
  · repeat' (first
      | refine f_seq ?_
      | refine f_region ?_
      | refine f_draw Tryz.mixed ?_
      | (refine ops_go rfl ?_; first
          | (apply g_ret; exact rfl; exact rfl; exact Tryz.fnOk rfl; exact RetTo.frameR (search_spec G l t p f hl hp hb hf) [1] rfl (by ((repeat' (first | exact trivial | exact fits_enc (by assumption) (fun _ => rfl) | exact fits_enc (by assumption) (fun h => h) | exact ⟨_, rfl, fun _ => rfl⟩ | exact ⟨_, rfl, fun h => h⟩ | refine ⟨?_, ?_⟩)); (first | done | fail))) (by ((repeat' (first | exact trivial | assumption | exact AVs.le_mono (Nat.le_of_ble_eq_true rfl) _ (by assumption) | exact Nat.le_of_ble_eq_true rfl | exact Enc.Gr.le (by assumption) _ _ | exact gr_le (by assumption) _ | exact InSl.le (by assumption) _ | refine ⟨?_, ?_⟩)); (first | done | fail))) (by ((repeat' (first | exact trivial | assumption | exact AVs.le_mono (Nat.le_of_ble_eq_true rfl) _ (by assumption) | exact Nat.le_of_ble_eq_true rfl | exact Enc.Gr.le (by assumption) _ _ | exact gr_le (by assumption) _ | exact InSl.le (by assumption) _ | refine ⟨?_, ?_⟩)); (first | done | fail))) rfl rfl rfl)
          | (apply g_sum Tryz.tbOk; exact rfl; exact rfl; exact rfl; exact rfl; exact rfl; (constructor <;> omega))
          | (apply g_rem Tryz.tbOk; exact rfl; exact rfl; exact rfl; exact rfl; (first | omega | (dsimp only; omega)))
          | (apply g_quo Tryz.tbOk; exact rfl; exact rfl; exact rfl; exact rfl; (first | omega | (dsimp only; omega)); (constructor <;> omega))
          | (apply g_cat; exact rfl; exact rfl; exact rfl; (first | omega | (simp; done) | (simp; omega)))
          | (apply g_cmp Tryz.tbOk; exact rfl; exact rfl; exact rfl; exact rfl; exact rfl; intro c hc; first | (have hb := BD.yes hc (by omega); subst hb; clear hc) | (have hb := BD.no hc (by omega); subst hb; clear hc) | skip)
          | (apply g_cmpS Tryz.tbOk; exact rfl; exact rfl; exact rfl; exact rfl; intro c hc)
          | (apply g_eqW Tryz.tbOk Tryz.elOk; exact rfl; exact rfl; exact rfl; exact rfl; exact rfl; exact rfl; intro c hc)
          | (apply g_conv Tryz.tbOk; exact rfl; exact rfl; exact rfl; exact rfl; exact rfl; (constructor <;> omega))
          | (apply x_set Tryz.tbOk Tryz.elOk Tryz.xtOk; exact rfl; exact rfl)
          | (apply x_grow Tryz.tbOk Tryz.elOk Tryz.xtOk; exact rfl; exact rfl)
          | (apply x_store Tryz.tbOk Tryz.elOk Tryz.xtOk; exact rfl)
          | (apply x_setN Tryz.tbOk Tryz.elOk Tryz.xtOk; exact rfl)
          | (apply g_ixs Tryz.tbOk; exact rfl; exact rfl; exact rfl; exact rfl; exact rfl; omega)
          | (apply g_ips Tryz.tbOk; exact rfl; exact rfl; exact rfl; exact rfl; exact rfl; exact rfl; exact rfl; (first | omega | (dsimp only; omega)))
          | (apply g_sls Tryz.tbOk; exact rfl; exact rfl; exact rfl; exact rfl; exact rfl; exact rfl; omega)
          | (apply g_ixg Tryz.tbOk; exact rfl; exact rfl; exact rfl; exact rfl; exact rfl; exact rfl; (first | omega | (dsimp only; omega))))
      | refine ops_skip rfl rfl ?_
      | refine ops_nil ?_
      | refine then_n ?_
      | refine f_condT rfl ?_
      | refine f_condF rfl ?_
      | refine f_block ?_
      | refine f_exit ?_
      | refine f_ret ?_
      | refine f_skip ?_
      | refine DrK.nil rfl ?_
      | refine d_skip rfl rfl ?_
      | refine d_skipN rfl ?_
      | (apply d_callR; exact rfl; exact rfl; exact rfl; exact Tryz.fnOk rfl; exact fun g => RetTo.frameR (search_spec G l t p f hl hp hb hf) [1] rfl (by ((repeat' (first | exact trivial | exact fits_enc (by assumption) (fun _ => rfl) | exact fits_enc (by assumption) (fun h => h) | exact ⟨_, rfl, fun _ => rfl⟩ | exact ⟨_, rfl, fun h => h⟩ | refine ⟨?_, ?_⟩)); (first | done | fail))) (by ((repeat' (first | exact trivial | assumption | exact AVs.le_mono (Nat.le_of_ble_eq_true rfl) _ (by assumption) | exact Nat.le_of_ble_eq_true rfl | exact Enc.Gr.le (by assumption) _ _ | exact gr_le (by assumption) _ | exact InSl.le (by assumption) _ | refine ⟨?_, ?_⟩)); (first | done | fail))) (by ((repeat' (first | exact trivial | assumption | exact AVs.le_mono (Nat.le_of_ble_eq_true rfl) _ (by assumption) | exact Nat.le_of_ble_eq_true rfl | exact Enc.Gr.le (by assumption) _ _ | exact gr_le (by assumption) _ | exact InSl.le (by assumption) _ | refine ⟨?_, ?_⟩)); (first | done | fail))) rfl rfl (List.append_nil _))
      | (apply d_any; exact rfl; exact rfl; exact st_sum Tryz.tbOk rfl rfl rfl rfl (by constructor <;> omega))
      | (refine d_bd rfl rfl (st_cmp Tryz.tbOk rfl rfl rfl rfl) ?_; intro c hc; first | (have hb := BD.yes hc (by omega); subst hb; clear hc) | (have hb := BD.no hc (by omega); subst hb; clear hc) | skip)
      | (refine d_bd rfl rfl (st_cmpS Tryz.tbOk rfl rfl rfl) ?_; intro c hc)
      | (refine d_bd rfl rfl (st_eqW Tryz.tbOk Tryz.elOk rfl rfl rfl rfl rfl) ?_; intro c hc)
      | (apply d_set Tryz.tbOk Tryz.elOk Tryz.xtOk; exact rfl; exact rfl; exact rfl)
      | (apply d_ips Tryz.tbOk; exact rfl; exact rfl; exact rfl; exact rfl; exact rfl; exact rfl; exact rfl; exact rfl; (first | omega | (dsimp only; omega)))
      | (apply d_ixg Tryz.tbOk; exact rfl; exact rfl; exact rfl; exact rfl; exact rfl; exact rfl; exact rfl; (first | omega | (dsimp only; omega)))
      | (apply d_grow Tryz.tbOk Tryz.elOk Tryz.xtOk; exact rfl; exact rfl; exact rfl)
      | (apply d_store Tryz.tbOk Tryz.elOk Tryz.xtOk; exact rfl; exact rfl)
      | refine then_x ?_
      | refine then_r ?_
      | refine blk_n ?_
      | refine blk_eq rfl ?_
      | refine blk_ne rfl ?_
      | refine blk_r ?_
      | refine loop_x ?_
      | refine loop_r ?_
      | refine cut_x ?_
      | refine cut_r ?_
      | refine body_ret rfl rfl ?_
      | refine body_end rfl rfl ?_
      | exact (rfl : AEnd.ret _ = AEnd.ret _)
      | exact ⟨rfl, _, rfl⟩
      | exact ⟨rfl, HFin.refl _⟩
      | (rename BD _ _ => hbd; cases hbd)
      | (rename ¬ _ = _ => hq; exact absurd rfl hq))
end Go.Proofs
