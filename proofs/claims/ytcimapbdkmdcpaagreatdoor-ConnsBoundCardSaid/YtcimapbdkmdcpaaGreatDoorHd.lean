/- A part of the proofs over this seat: what functions of the program compute, shown once each. No statement of the seat is closed in this text. -/
import Derived.Test.YtcimapbdkmdcpaaGreatDoorHc
set_option linter.all false
set_option linter.unusedVariables false
namespace Go.Proofs
open Go.Fm
attribute [local irreducible] WP opsWP opsGo CallTo RetTo PureF StepTo StoreTo thenQ blkQ loopQ bodyQ DrK
variable (G : Nat → Nat → Option AV)

def cnE : Enc Cn 5 := ⟨Cn.cells, fun _ => rfl⟩
theorem cnGr : cnE.Gr := fun _ => rfl
/-- The objects of connections: what holds them, and they. -/
abbrev cObj (sv : AV) (next : Int) : AObj := .cells [.int .i64 1, sv, .int .i64 next] 43 false false
abbrev aObj (l : List Cn) : AObj := .cells (cnE.of l) 47 true false
/-- Their slice. -/
def slOk (sv : AV) (l : List Cn) : Prop := (l = [] ∧ sv = .nils) ∨ sv = .slc 1 0 l.length (.opn 0 0)

set_option maxRecDepth 100000 in
set_option maxHeartbeats 4000000 in
theorem there_spec (l : List Cn) (sv : AV) (next : Int) : RetTo Tryz.prog G 14 [.ptr 0 0] [cObj sv next, aObj l] (.bool true) [cObj sv next, aObj l] := by
  refine RetTo.drop (call_body Tryz.tbOk Tryz.func14 rfl Tryz.ntmps14 rfl rfl rfl ?_) (by ((repeat' (first | exact trivial | assumption | exact AVs.le_mono (Nat.le_of_ble_eq_true rfl) _ (by assumption) | exact Nat.le_of_ble_eq_true rfl | exact Enc.Gr.le (by assumption) _ _ | exact gr_le (by assumption) _ | exact InSl.le (by assumption) _ | refine ⟨?_, ?_⟩)); (first | done | fail)))
  dsimp only [initF, List.length_cons, List.length_nil, Nat.zero_add]
  repeat' (first
    | refine f_seq ?_
    | refine f_region ?_
    | refine f_draw Tryz.mixed ?_
    | (refine ops_go rfl ?_; first
        | (apply g_sum Tryz.tbOk; exact rfl; exact rfl; exact rfl; exact rfl; exact rfl; (constructor <;> omega))
        | (apply g_rem Tryz.tbOk; exact rfl; exact rfl; exact rfl; exact rfl; (first | omega | (dsimp only; omega)))
        | (apply g_quo Tryz.tbOk; exact rfl; exact rfl; exact rfl; exact rfl; (first | omega | (dsimp only; omega)); (constructor <;> omega))
        | (apply g_cat; exact rfl; exact rfl; exact rfl; (first | omega | (simp; done) | (simp; omega)))
        | (apply g_cmp Tryz.tbOk; exact rfl; exact rfl; exact rfl; exact rfl; exact rfl; intro c hc; first | (have hb := BD.yes hc (by omega); subst hb; clear hc) | (have hb := BD.no hc (by omega); subst hb; clear hc) | skip)
        | (apply g_cmpS Tryz.tbOk; exact rfl; exact rfl; exact rfl; exact rfl; intro c hc)
        | (apply g_eqW Tryz.tbOk Tryz.elOk; exact rfl; exact rfl; exact rfl; exact rfl; exact rfl; exact rfl; intro c hc)
        | (apply g_conv Tryz.tbOk; exact rfl; exact rfl; exact rfl; exact rfl; exact rfl; (constructor <;> omega))
        | (apply x_set Tryz.tbOk Tryz.elOk Tryz.xtOk; exact rfl; exact rfl)
        | (apply x_grow Tryz.tbOk Tryz.elOk Tryz.xtOk; exact rfl; exact rfl)
        | (apply x_store Tryz.tbOk Tryz.elOk Tryz.xtOk; exact rfl)
        | (apply x_setN Tryz.tbOk Tryz.elOk Tryz.xtOk; exact rfl)
        | (apply g_ixs Tryz.tbOk; exact rfl; exact rfl; exact rfl; exact rfl; exact rfl; omega)
        | (apply g_ips Tryz.tbOk; exact rfl; exact rfl; exact rfl; exact rfl; exact rfl; exact rfl; exact rfl; (first | omega | (dsimp only; omega)))
        | (apply g_sls Tryz.tbOk; exact rfl; exact rfl; exact rfl; exact rfl; exact rfl; exact rfl; omega)
        | (apply g_ixg Tryz.tbOk; exact rfl; exact rfl; exact rfl; exact rfl; exact rfl; exact rfl; (first | omega | (dsimp only; omega))))
    | refine ops_skip rfl rfl ?_
    | refine ops_nil ?_
    | refine then_n ?_
    | refine f_condT rfl ?_
    | refine f_condF rfl ?_
    | refine f_block ?_
    | refine f_exit ?_
    | refine f_ret ?_
    | refine f_skip ?_
    | refine DrK.nil rfl ?_
    | refine d_skip rfl rfl ?_
    | refine d_skipN rfl ?_
    | (apply d_any; exact rfl; exact rfl; exact st_sum Tryz.tbOk rfl rfl rfl rfl (by constructor <;> omega))
    | (refine d_bd rfl rfl (st_cmp Tryz.tbOk rfl rfl rfl rfl) ?_; intro c hc; first | (have hb := BD.yes hc (by omega); subst hb; clear hc) | (have hb := BD.no hc (by omega); subst hb; clear hc) | skip)
    | (refine d_bd rfl rfl (st_cmpS Tryz.tbOk rfl rfl rfl) ?_; intro c hc)
    | (refine d_bd rfl rfl (st_eqW Tryz.tbOk Tryz.elOk rfl rfl rfl rfl rfl) ?_; intro c hc)
    | (apply d_set Tryz.tbOk Tryz.elOk Tryz.xtOk; exact rfl; exact rfl; exact rfl)
    | (apply d_ips Tryz.tbOk; exact rfl; exact rfl; exact rfl; exact rfl; exact rfl; exact rfl; exact rfl; exact rfl; (first | omega | (dsimp only; omega)))
    | (apply d_ixg Tryz.tbOk; exact rfl; exact rfl; exact rfl; exact rfl; exact rfl; exact rfl; exact rfl; (first | omega | (dsimp only; omega)))
    | (apply d_grow Tryz.tbOk Tryz.elOk Tryz.xtOk; exact rfl; exact rfl; exact rfl)
    | (apply d_store Tryz.tbOk Tryz.elOk Tryz.xtOk; exact rfl; exact rfl)
    | refine then_x ?_
    | refine then_r ?_
    | refine blk_n ?_
    | refine blk_eq rfl ?_
    | refine blk_ne rfl ?_
    | refine blk_r ?_
    | refine loop_x ?_
    | refine loop_r ?_
    | refine cut_x ?_
    | refine cut_r ?_
    | refine body_ret rfl rfl ?_
    | refine body_end rfl rfl ?_
    | exact (rfl : AEnd.ret _ = AEnd.ret _)
    | exact ⟨rfl, _, rfl⟩
    | exact ⟨rfl, HFin.refl _⟩
    | (rename BD _ _ => hbd; cases hbd)
    | (rename ¬ _ = _ => hq; exact absurd rfl hq))

/-- The place of the one of some that was given first, of the first so many. -/
def eld (p : Cn → Bool) (l : List Cn) : Nat → Int
  | 0 => -1
  | n + 1 => match l[n]? with
    | some x => if 0 ≤ x.given ∧ p x = true ∧ (eld p l n < 0 ∨ ∀ y, l[(eld p l n).toNat]? = some y → x.given < y.given) then n else eld p l n
    | none => eld p l n
theorem eld_s {p : Cn → Bool} {l : List Cn} {n : Nat} {x : Cn} (hx : l[n]? = some x) : eld p l (n + 1) = if 0 ≤ x.given ∧ p x = true ∧ (eld p l n < 0 ∨ ∀ y, l[(eld p l n).toNat]? = some y → x.given < y.given) then (n : Int) else eld p l n := by
  simp only [eld, hx]
theorem eld_rng (p : Cn → Bool) (l : List Cn) (n : Nat) : -1 ≤ eld p l n ∧ eld p l n < n := by
  induction n with
  | zero => simp [eld]
  | succ n ih =>
    simp only [eld]
    split
    · split <;> omega
    · omega

def Tryz.lv20 : List (List Nat) := [[0, 1], [0, 1], [0, 1, 5], [0, 1, 5, 11, 12, 13], [0, 1, 5, 11, 12, 13], [0, 1, 5, 6, 7, 11, 12, 13], [0, 1, 6, 11, 12, 13], [0, 1, 5, 11, 12, 13], [5]]
set_option maxRecDepth 100000 in
set_option maxHeartbeats 4000000 in
theorem eldest_spec (l : List Cn) (sv : AV) (next : Int) (p : Cn → Bool) (f : FuncId) (hf : FnOk Tryz.prog f) (caps : List AV) (ko : AObj) (hcap : AVs.le 3 caps) (hl : l.length ≤ 1000000) (hs : slOk sv l)
    (hp : ∀ c g, RetTo Tryz.prog G f (c.v :: caps) ([cObj sv next, aObj l, ko] ++ g) (.bool (p c)) ([cObj sv next, aObj l, ko] ++ g)) :
    RetTo Tryz.prog G 20 [.ptr 0 0, .fn (.func f) [] caps] [cObj sv next, aObj l, ko] (.int .i64 (eld p l l.length)) [cObj sv next, aObj l, ko] := by
  have hgr := cnGr
  refine RetTo.drop (call_body Tryz.tbOk Tryz.func20 rfl Tryz.ntmps20 rfl rfl rfl ?_) (by ((repeat' (first | exact trivial | assumption | exact AVs.le_mono (Nat.le_of_ble_eq_true rfl) _ (by assumption) | exact Nat.le_of_ble_eq_true rfl | exact Enc.Gr.le (by assumption) _ _ | exact gr_le (by assumption) _ | exact InSl.le (by assumption) _ | refine ⟨?_, ?_⟩)); (first | done | fail)))
  dsimp only [initF, List.length_cons, List.length_nil, Nat.zero_add]
  rcases hs with ⟨rfl, rfl⟩ | rfl
  · repeat' (first
      | (refine f_rounds (k := 1) ?_; show WP _ _ _ _ _ _ _ _)
      | refine f_seq ?_
      | (refine f_regionL Tryz.lv20 ?_; show opsWP _ _ _ _ _ _ _ _ _)
      | (refine f_drawL Tryz.lv20 Tryz.mixed ?_; show DrK _ _ _ _ _ _ _ _ _ _)
      | (refine ops_go rfl ?_; first
          | (apply g_sum Tryz.tbOk; exact rfl; exact rfl; exact rfl; exact rfl; exact rfl; (constructor <;> omega))
          | (apply g_rem Tryz.tbOk; exact rfl; exact rfl; exact rfl; exact rfl; (first | omega | (dsimp only; omega)))
          | (apply g_quo Tryz.tbOk; exact rfl; exact rfl; exact rfl; exact rfl; (first | omega | (dsimp only; omega)); (constructor <;> omega))
          | (apply g_cat; exact rfl; exact rfl; exact rfl; (first | omega | (simp; done) | (simp; omega)))
          | (apply g_cmp Tryz.tbOk; exact rfl; exact rfl; exact rfl; exact rfl; exact rfl; intro c hc; first | (have hb := BD.yes hc (by omega); subst hb; clear hc) | (have hb := BD.no hc (by omega); subst hb; clear hc) | skip)
          | (apply g_cmpS Tryz.tbOk; exact rfl; exact rfl; exact rfl; exact rfl; intro c hc)
          | (apply g_eqW Tryz.tbOk Tryz.elOk; exact rfl; exact rfl; exact rfl; exact rfl; exact rfl; exact rfl; intro c hc)
          | (apply g_conv Tryz.tbOk; exact rfl; exact rfl; exact rfl; exact rfl; exact rfl; (constructor <;> omega))
          | (apply x_set Tryz.tbOk Tryz.elOk Tryz.xtOk; exact rfl; exact rfl)
          | (apply x_grow Tryz.tbOk Tryz.elOk Tryz.xtOk; exact rfl; exact rfl)
          | (apply x_store Tryz.tbOk Tryz.elOk Tryz.xtOk; exact rfl)
          | (apply x_setN Tryz.tbOk Tryz.elOk Tryz.xtOk; exact rfl)
          | (apply g_ixs Tryz.tbOk; exact rfl; exact rfl; exact rfl; exact rfl; exact rfl; omega)
          | (apply g_ips Tryz.tbOk; exact rfl; exact rfl; exact rfl; exact rfl; exact rfl; exact rfl; exact rfl; (first | omega | (dsimp only; omega)))
          | (apply g_sls Tryz.tbOk; exact rfl; exact rfl; exact rfl; exact rfl; exact rfl; exact rfl; omega)
          | (apply g_ixg Tryz.tbOk; exact rfl; exact rfl; exact rfl; exact rfl; exact rfl; exact rfl; (first | omega | (dsimp only; omega))))
      | refine ops_skip rfl rfl ?_
      | refine ops_nil ?_
      | refine then_n ?_
      | refine f_condT rfl ?_
      | refine f_condF rfl ?_
      | refine f_block ?_
      | refine f_exit ?_
      | refine f_ret ?_
      | refine f_skip ?_
      | refine DrK.nil rfl ?_
      | refine d_skip rfl rfl ?_
      | refine d_skipN rfl ?_
      | (apply d_any; exact rfl; exact rfl; exact st_sum Tryz.tbOk rfl rfl rfl rfl (by constructor <;> omega))
      | (refine d_bd rfl rfl (st_cmp Tryz.tbOk rfl rfl rfl rfl) ?_; intro c hc; first | (have hb := BD.yes hc (by omega); subst hb; clear hc) | (have hb := BD.no hc (by omega); subst hb; clear hc) | skip)
      | (refine d_bd rfl rfl (st_cmpS Tryz.tbOk rfl rfl rfl) ?_; intro c hc)
      | (refine d_bd rfl rfl (st_eqW Tryz.tbOk Tryz.elOk rfl rfl rfl rfl rfl) ?_; intro c hc)
      | (apply d_set Tryz.tbOk Tryz.elOk Tryz.xtOk; exact rfl; exact rfl; exact rfl)
      | (apply d_ips Tryz.tbOk; exact rfl; exact rfl; exact rfl; exact rfl; exact rfl; exact rfl; exact rfl; exact rfl; (first | omega | (dsimp only; omega)))
      | (apply d_ixg Tryz.tbOk; exact rfl; exact rfl; exact rfl; exact rfl; exact rfl; exact rfl; exact rfl; (first | omega | (dsimp only; omega)))
      | (apply d_grow Tryz.tbOk Tryz.elOk Tryz.xtOk; exact rfl; exact rfl; exact rfl)
      | (apply d_store Tryz.tbOk Tryz.elOk Tryz.xtOk; exact rfl; exact rfl)
      | refine then_x ?_
      | refine then_r ?_
      | refine blk_n ?_
      | refine blk_eq rfl ?_
      | refine blk_ne rfl ?_
      | refine blk_r ?_
      | refine loop_x ?_
      | refine loop_r ?_
      | refine cut_x ?_
      | refine cut_r ?_
      | refine body_ret rfl rfl ?_
      | refine body_end rfl rfl ?_
      | exact (rfl : AEnd.ret _ = AEnd.ret _)
      | exact ⟨rfl, _, rfl⟩
      | exact ⟨rfl, HFin.refl _⟩
      | (rename BD _ _ => hbd; cases hbd)
      | (rename ¬ _ = _ => hq; exact absurd rfl hq))
  · repeat' (first
      | refine f_seq ?_
      | (refine f_regionL Tryz.lv20 ?_; show opsWP _ _ _ _ _ _ _ _ _)
      | (refine f_drawL Tryz.lv20 Tryz.mixed ?_; show DrK _ _ _ _ _ _ _ _ _ _)
      | (refine ops_go rfl ?_; first
          | (apply g_sum Tryz.tbOk; exact rfl; exact rfl; exact rfl; exact rfl; exact rfl; (constructor <;> omega))
          | (apply g_rem Tryz.tbOk; exact rfl; exact rfl; exact rfl; exact rfl; (first | omega | (dsimp only; omega)))
          | (apply g_quo Tryz.tbOk; exact rfl; exact rfl; exact rfl; exact rfl; (first | omega | (dsimp only; omega)); (constructor <;> omega))
          | (apply g_cat; exact rfl; exact rfl; exact rfl; (first | omega | (simp; done) | (simp; omega)))
          | (apply g_cmp Tryz.tbOk; exact rfl; exact rfl; exact rfl; exact rfl; exact rfl; intro c hc; first | (have hb := BD.yes hc (by omega); subst hb; clear hc) | (have hb := BD.no hc (by omega); subst hb; clear hc) | skip)
          | (apply g_cmpS Tryz.tbOk; exact rfl; exact rfl; exact rfl; exact rfl; intro c hc)
          | (apply g_eqW Tryz.tbOk Tryz.elOk; exact rfl; exact rfl; exact rfl; exact rfl; exact rfl; exact rfl; intro c hc)
          | (apply g_conv Tryz.tbOk; exact rfl; exact rfl; exact rfl; exact rfl; exact rfl; (constructor <;> omega))
          | (apply x_set Tryz.tbOk Tryz.elOk Tryz.xtOk; exact rfl; exact rfl)
          | (apply x_grow Tryz.tbOk Tryz.elOk Tryz.xtOk; exact rfl; exact rfl)
          | (apply x_store Tryz.tbOk Tryz.elOk Tryz.xtOk; exact rfl)
          | (apply x_setN Tryz.tbOk Tryz.elOk Tryz.xtOk; exact rfl)
          | (apply g_ixs Tryz.tbOk; exact rfl; exact rfl; exact rfl; exact rfl; exact rfl; omega)
          | (apply g_ips Tryz.tbOk; exact rfl; exact rfl; exact rfl; exact rfl; exact rfl; exact rfl; exact rfl; (first | omega | (dsimp only; omega)))
          | (apply g_sls Tryz.tbOk; exact rfl; exact rfl; exact rfl; exact rfl; exact rfl; exact rfl; omega)
          | (apply g_ixg Tryz.tbOk; exact rfl; exact rfl; exact rfl; exact rfl; exact rfl; exact rfl; (first | omega | (dsimp only; omega))))
      | refine ops_skip rfl rfl ?_
      | refine ops_nil ?_
      | refine then_n ?_
      | refine f_condT rfl ?_
      | refine f_condF rfl ?_
      | refine f_block ?_
      | refine f_exit ?_
      | refine f_ret ?_
      | refine f_skip ?_
      | refine DrK.nil rfl ?_
      | refine d_skip rfl rfl ?_
      | refine d_skipN rfl ?_
      | (apply d_any; exact rfl; exact rfl; exact st_sum Tryz.tbOk rfl rfl rfl rfl (by constructor <;> omega))
      | (refine d_bd rfl rfl (st_cmp Tryz.tbOk rfl rfl rfl rfl) ?_; intro c hc; first | (have hb := BD.yes hc (by omega); subst hb; clear hc) | (have hb := BD.no hc (by omega); subst hb; clear hc) | skip)
      | (refine d_bd rfl rfl (st_cmpS Tryz.tbOk rfl rfl rfl) ?_; intro c hc)
      | (refine d_bd rfl rfl (st_eqW Tryz.tbOk Tryz.elOk rfl rfl rfl rfl rfl) ?_; intro c hc)
      | (apply d_set Tryz.tbOk Tryz.elOk Tryz.xtOk; exact rfl; exact rfl; exact rfl)
      | (apply d_ips Tryz.tbOk; exact rfl; exact rfl; exact rfl; exact rfl; exact rfl; exact rfl; exact rfl; exact rfl; (first | omega | (dsimp only; omega)))
      | (apply d_ixg Tryz.tbOk; exact rfl; exact rfl; exact rfl; exact rfl; exact rfl; exact rfl; exact rfl; (first | omega | (dsimp only; omega)))
      | (apply d_grow Tryz.tbOk Tryz.elOk Tryz.xtOk; exact rfl; exact rfl; exact rfl)
      | (apply d_store Tryz.tbOk Tryz.elOk Tryz.xtOk; exact rfl; exact rfl)
      | refine then_x ?_
      | refine then_r ?_
      | refine blk_n ?_
      | refine blk_eq rfl ?_
      | refine blk_ne rfl ?_
      | refine blk_r ?_
      | refine loop_x ?_
      | refine loop_r ?_
      | refine cut_x ?_
      | refine cut_r ?_
      | refine body_ret rfl rfl ?_
      | refine body_end rfl rfl ?_
      | exact (rfl : AEnd.ret _ = AEnd.ret _)
      | exact ⟨rfl, _, rfl⟩
      | exact ⟨rfl, HFin.refl _⟩
      | (rename BD _ _ => hbd; cases hbd)
      | (rename ¬ _ = _ => hq; exact absurd rfl hq))
    refine f_loopC (fun x : Nat × Int => [(0, .ptr 0 0), (1, .fn (.func f) [] caps), (5, .int .i64 x.2), (11, .slc 1 0 l.length (.opn 0 0)), (12, .int .i64 l.length), (13, .int .i64 x.1)])
      (fun x => x.1 ≤ l.length ∧ x.2 = eld p l x.1) (fun x => l.length - x.1) (0, -1) ⟨by simp, rfl⟩ ⟨rfl, rfl, rfl, rfl, rfl, rfl, trivial⟩ (fun _ => rfl) rfl (fun _ _ => (by ((repeat' (first | exact trivial | assumption | exact AVs.le_mono (Nat.le_of_ble_eq_true rfl) _ (by assumption) | exact Nat.le_of_ble_eq_true rfl | exact Enc.Gr.le (by assumption) _ _ | exact gr_le (by assumption) _ | exact InSl.le (by assumption) _ | refine ⟨?_, ?_⟩)); (first | done | fail)))) ?_
    rintro ⟨k, a⟩ ⟨hk, ha⟩
    dsimp only at hk ha
    have hr := eld_rng p l k
    rw [← ha] at hr
    rcases Nat.lt_or_ge k l.length with hlt | hge
    · obtain ⟨x, hx⟩ : ∃ x, l[k]? = some x := ⟨_, List.getElem?_eq_getElem hlt⟩
      obtain ⟨ya, hya⟩ : ∃ ya, 0 ≤ a → l[a.toNat]? = some ya := by
        by_cases h0 : 0 ≤ a
        · exact ⟨l[a.toNat]'(by omega), fun _ => List.getElem?_eq_getElem (by omega)⟩
        · exact ⟨x, fun h => absurd h h0⟩
      repeat' (first
        | refine f_seq ?_
        | (refine f_regionL Tryz.lv20 ?_; show opsWP _ _ _ _ _ _ _ _ _)
        | (refine f_drawL Tryz.lv20 Tryz.mixed ?_; show DrK _ _ _ _ _ _ _ _ _ _)
        | (refine ops_go rfl ?_; first
            | (apply g_load Tryz.tbOk; exact rfl; exact rfl; exact rfl; exact rfl; exact cnE.load_row hx rfl rfl (by dsimp only; omega))
            | (apply g_callB; exact rfl; exact rfl; exact Tryz.fnOk rfl; exact kept_spec G x; intro c hc)
            | (apply g_load Tryz.tbOk; exact rfl; exact rfl; exact rfl; exact rfl; exact cnE.load_cell (j := 4) (hya (by omega)) rfl (by dsimp only; omega) (by omega) rfl)
            | (apply g_sum Tryz.tbOk; exact rfl; exact rfl; exact rfl; exact rfl; exact rfl; (constructor <;> omega))
            | (apply g_rem Tryz.tbOk; exact rfl; exact rfl; exact rfl; exact rfl; (first | omega | (dsimp only; omega)))
            | (apply g_quo Tryz.tbOk; exact rfl; exact rfl; exact rfl; exact rfl; (first | omega | (dsimp only; omega)); (constructor <;> omega))
            | (apply g_cat; exact rfl; exact rfl; exact rfl; (first | omega | (simp; done) | (simp; omega)))
            | (apply g_cmp Tryz.tbOk; exact rfl; exact rfl; exact rfl; exact rfl; exact rfl; intro c hc; first | (have hb := BD.yes hc (by omega); subst hb; clear hc) | (have hb := BD.no hc (by omega); subst hb; clear hc) | skip)
            | (apply g_cmpS Tryz.tbOk; exact rfl; exact rfl; exact rfl; exact rfl; intro c hc)
            | (apply g_eqW Tryz.tbOk Tryz.elOk; exact rfl; exact rfl; exact rfl; exact rfl; exact rfl; exact rfl; intro c hc)
            | (apply g_conv Tryz.tbOk; exact rfl; exact rfl; exact rfl; exact rfl; exact rfl; (constructor <;> omega))
            | (apply x_set Tryz.tbOk Tryz.elOk Tryz.xtOk; exact rfl; exact rfl)
            | (apply x_grow Tryz.tbOk Tryz.elOk Tryz.xtOk; exact rfl; exact rfl)
            | (apply x_store Tryz.tbOk Tryz.elOk Tryz.xtOk; exact rfl)
            | (apply x_setN Tryz.tbOk Tryz.elOk Tryz.xtOk; exact rfl)
            | (apply g_ixs Tryz.tbOk; exact rfl; exact rfl; exact rfl; exact rfl; exact rfl; omega)
            | (apply g_ips Tryz.tbOk; exact rfl; exact rfl; exact rfl; exact rfl; exact rfl; exact rfl; exact rfl; (first | omega | (dsimp only; omega)))
            | (apply g_sls Tryz.tbOk; exact rfl; exact rfl; exact rfl; exact rfl; exact rfl; exact rfl; omega)
            | (apply g_ixg Tryz.tbOk; exact rfl; exact rfl; exact rfl; exact rfl; exact rfl; exact rfl; (first | omega | (dsimp only; omega))))
        | refine ops_skip rfl rfl ?_
        | refine ops_nil ?_
        | refine then_n ?_
        | refine f_condT rfl ?_
        | refine f_condF rfl ?_
        | refine f_block ?_
        | refine f_exit ?_
        | refine f_ret ?_
        | refine f_skip ?_
        | refine DrK.nil rfl ?_
        | refine d_skip rfl rfl ?_
        | refine d_skipN rfl ?_
        | (apply d_load Tryz.tbOk; exact rfl; exact rfl; exact rfl; exact rfl; exact rfl; exact cnE.load_row hx rfl rfl (by dsimp only; omega))
        | (apply d_callB; exact rfl; exact rfl; exact rfl; exact Tryz.fnOk rfl; exact kept_spec G x; intro c hc)
        | (apply d_callRB; exact rfl; exact rfl; exact rfl; exact hf; exact fun g => hp x (_ :: g); intro c hc)
        | (apply d_load Tryz.tbOk; exact rfl; exact rfl; exact rfl; exact rfl; exact rfl; exact cnE.load_cell (j := 4) (hya (by omega)) rfl (by dsimp only; omega) (by omega) rfl)
        | (apply d_any; exact rfl; exact rfl; exact st_sum Tryz.tbOk rfl rfl rfl rfl (by constructor <;> omega))
        | (refine d_bd rfl rfl (st_cmp Tryz.tbOk rfl rfl rfl rfl) ?_; intro c hc; first | (have hb := BD.yes hc (by omega); subst hb; clear hc) | (have hb := BD.no hc (by omega); subst hb; clear hc) | skip)
        | (refine d_bd rfl rfl (st_cmpS Tryz.tbOk rfl rfl rfl) ?_; intro c hc)
        | (refine d_bd rfl rfl (st_eqW Tryz.tbOk Tryz.elOk rfl rfl rfl rfl rfl) ?_; intro c hc)
        | (apply d_set Tryz.tbOk Tryz.elOk Tryz.xtOk; exact rfl; exact rfl; exact rfl)
        | (apply d_ips Tryz.tbOk; exact rfl; exact rfl; exact rfl; exact rfl; exact rfl; exact rfl; exact rfl; exact rfl; (first | omega | (dsimp only; omega)))
        | (apply d_ixg Tryz.tbOk; exact rfl; exact rfl; exact rfl; exact rfl; exact rfl; exact rfl; exact rfl; (first | omega | (dsimp only; omega)))
        | (apply d_grow Tryz.tbOk Tryz.elOk Tryz.xtOk; exact rfl; exact rfl; exact rfl)
        | (apply d_store Tryz.tbOk Tryz.elOk Tryz.xtOk; exact rfl; exact rfl)
        | refine then_x ?_
        | refine then_r ?_
        | refine blk_n ?_
        | refine blk_eq rfl ?_
        | refine blk_ne rfl ?_
        | refine blk_r ?_
        | refine loop_x ?_
        | refine loop_r ?_
        | refine cut_x ?_
        | refine cut_r ?_
        | refine body_ret rfl rfl ?_
        | refine body_end rfl rfl ?_
        | exact (rfl : AEnd.ret _ = AEnd.ret _)
        | exact ⟨rfl, _, rfl⟩
        | exact ⟨rfl, HFin.refl _⟩
        | (rename BD _ _ => hbd; cases hbd)
        | (rename ¬ _ = _ => hq; exact absurd rfl hq))
      all_goals
        refine loop_c (k + 1, _) ⟨by dsimp only; omega, ?_⟩ (by dsimp only; omega) ⟨rfl, rfl, rfl, rfl, rfl, rfl, trivial⟩ rfl ⟨_, rfl⟩
        have hya' := hya
        dsimp only at *
        rw [eld_s hx, ← ha]
        split
        · rename_i q
          obtain ⟨q1, q2, q3⟩ := q
          first
          | rfl
          | (exfalso; simp only [decide_eq_true_eq] at *; contradiction)
          | (exfalso
             rcases q3 with q3 | q3
             · omega
             · have := q3 ya (hya (by omega)); omega)
        · rename_i q
          first
          | rfl
          | (exfalso; exact q ⟨by simpa using ‹decide _ = true›, by assumption, .inl (by assumption)⟩)
          | (exfalso; exact q ⟨by simpa using ‹decide _ = true›, by assumption, .inr (fun y hy => by have e := hya (by omega); rw [e] at hy; cases hy; assumption)⟩)
    · repeat' (first
        | refine f_seq ?_
        | (refine f_regionL Tryz.lv20 ?_; show opsWP _ _ _ _ _ _ _ _ _)
        | (refine f_drawL Tryz.lv20 Tryz.mixed ?_; show DrK _ _ _ _ _ _ _ _ _ _)
        | (refine ops_go rfl ?_; first
            | (apply g_sum Tryz.tbOk; exact rfl; exact rfl; exact rfl; exact rfl; exact rfl; (constructor <;> omega))
            | (apply g_rem Tryz.tbOk; exact rfl; exact rfl; exact rfl; exact rfl; (first | omega | (dsimp only; omega)))
            | (apply g_quo Tryz.tbOk; exact rfl; exact rfl; exact rfl; exact rfl; (first | omega | (dsimp only; omega)); (constructor <;> omega))
            | (apply g_cat; exact rfl; exact rfl; exact rfl; (first | omega | (simp; done) | (simp; omega)))
            | (apply g_cmp Tryz.tbOk; exact rfl; exact rfl; exact rfl; exact rfl; exact rfl; intro c hc; first | (have hb := BD.yes hc (by omega); subst hb; clear hc) | (have hb := BD.no hc (by omega); subst hb; clear hc) | skip)
            | (apply g_cmpS Tryz.tbOk; exact rfl; exact rfl; exact rfl; exact rfl; intro c hc)
            | (apply g_eqW Tryz.tbOk Tryz.elOk; exact rfl; exact rfl; exact rfl; exact rfl; exact rfl; exact rfl; intro c hc)
            | (apply g_conv Tryz.tbOk; exact rfl; exact rfl; exact rfl; exact rfl; exact rfl; (constructor <;> omega))
            | (apply x_set Tryz.tbOk Tryz.elOk Tryz.xtOk; exact rfl; exact rfl)
            | (apply x_grow Tryz.tbOk Tryz.elOk Tryz.xtOk; exact rfl; exact rfl)
            | (apply x_store Tryz.tbOk Tryz.elOk Tryz.xtOk; exact rfl)
            | (apply x_setN Tryz.tbOk Tryz.elOk Tryz.xtOk; exact rfl)
            | (apply g_ixs Tryz.tbOk; exact rfl; exact rfl; exact rfl; exact rfl; exact rfl; omega)
            | (apply g_ips Tryz.tbOk; exact rfl; exact rfl; exact rfl; exact rfl; exact rfl; exact rfl; exact rfl; (first | omega | (dsimp only; omega)))
            | (apply g_sls Tryz.tbOk; exact rfl; exact rfl; exact rfl; exact rfl; exact rfl; exact rfl; omega)
            | (apply g_ixg Tryz.tbOk; exact rfl; exact rfl; exact rfl; exact rfl; exact rfl; exact rfl; (first | omega | (dsimp only; omega))))
        | refine ops_skip rfl rfl ?_
        | refine ops_nil ?_
        | refine then_n ?_
        | refine f_condT rfl ?_
        | refine f_condF rfl ?_
        | refine f_block ?_
        | refine f_exit ?_
        | refine f_ret ?_
        | refine f_skip ?_
        | refine DrK.nil rfl ?_
        | refine d_skip rfl rfl ?_
        | refine d_skipN rfl ?_
        | (apply d_any; exact rfl; exact rfl; exact st_sum Tryz.tbOk rfl rfl rfl rfl (by constructor <;> omega))
        | (refine d_bd rfl rfl (st_cmp Tryz.tbOk rfl rfl rfl rfl) ?_; intro c hc; first | (have hb := BD.yes hc (by omega); subst hb; clear hc) | (have hb := BD.no hc (by omega); subst hb; clear hc) | skip)
        | (refine d_bd rfl rfl (st_cmpS Tryz.tbOk rfl rfl rfl) ?_; intro c hc)
        | (refine d_bd rfl rfl (st_eqW Tryz.tbOk Tryz.elOk rfl rfl rfl rfl rfl) ?_; intro c hc)
        | (apply d_set Tryz.tbOk Tryz.elOk Tryz.xtOk; exact rfl; exact rfl; exact rfl)
        | (apply d_ips Tryz.tbOk; exact rfl; exact rfl; exact rfl; exact rfl; exact rfl; exact rfl; exact rfl; exact rfl; (first | omega | (dsimp only; omega)))
        | (apply d_ixg Tryz.tbOk; exact rfl; exact rfl; exact rfl; exact rfl; exact rfl; exact rfl; exact rfl; (first | omega | (dsimp only; omega)))
        | (apply d_grow Tryz.tbOk Tryz.elOk Tryz.xtOk; exact rfl; exact rfl; exact rfl)
        | (apply d_store Tryz.tbOk Tryz.elOk Tryz.xtOk; exact rfl; exact rfl)
        | refine then_x ?_
        | refine then_r ?_
        | refine blk_n ?_
        | refine blk_eq rfl ?_
        | refine blk_ne rfl ?_
        | refine blk_r ?_
        | refine loop_x ?_
        | refine loop_r ?_
        | refine cut_x ?_
        | refine cut_r ?_
        | refine body_ret rfl rfl ?_
        | refine body_end rfl rfl ?_
        | exact (rfl : AEnd.ret _ = AEnd.ret _)
        | exact ⟨rfl, _, rfl⟩
        | exact ⟨rfl, HFin.refl _⟩
        | (rename BD _ _ => hbd; cases hbd)
        | (rename ¬ _ = _ => hq; exact absurd rfl hq))
      have : k = l.length := by omega
      exact ⟨by simp [ha, this], [], rfl⟩
end Go.Proofs
