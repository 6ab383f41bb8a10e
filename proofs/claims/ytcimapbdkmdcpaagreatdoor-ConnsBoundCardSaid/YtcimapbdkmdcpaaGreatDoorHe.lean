/- A part of the proofs over this seat: what functions of the program compute, shown once each. No statement of the seat is closed in this text. -/
import Derived.Test.YtcimapbdkmdcpaaGreatDoorHd
set_option linter.all false
set_option linter.unusedVariables false
namespace Go.Proofs
open Go.Fm
attribute [local irreducible] WP opsWP opsGo CallTo RetTo PureF StepTo StoreTo thenQ blkQ loopQ bodyQ DrK
variable (G : Nat → Nat → Option AV)

theorem cnOne : cnE.One := fun _ => rfl

theorem del_list {α : Type} (l : List α) (i : Nat) (hi : i < l.length) : l.take i ++ (l.drop (i + 1)).take (l.length - (i + 1)) ++ l.drop (i + ((l.drop (i + 1)).take (l.length - (i + 1))).length) = l.eraseIdx i ++ l.drop (l.length - 1) := by
  have e : (l.drop (i + 1)).take (l.length - (i + 1)) = l.drop (i + 1) := List.take_of_length_le (by simp)
  rw [e, List.eraseIdx_eq_take_drop_succ, List.length_drop, show i + (l.length - (i + 1)) = l.length - 1 by omega]
theorem del_over (l : List Cn) (i : Nat) (hi : i < l.length) : over (cnE.of l) (i * 5) (cnE.of ((l.drop (i + 1)).take (l.length - (i + 1)))) = some (cnE.of (l.eraseIdx i ++ l.drop (l.length - 1))) := by
  rw [cnE.over_of (i := i) rfl (by rw [List.length_take, List.length_drop]; omega), del_list l i hi]
def zCn : Cn := ⟨0, false, [], 0, 0⟩
theorem clr_over (l : List Cn) (i : Nat) (hi : i < l.length) : over (cnE.of (l.eraseIdx i ++ l.drop (l.length - 1))) ((l.length - 1) * 5) (cnE.of [zCn]) = some (cnE.of (l.eraseIdx i ++ [zCn])) := by
  have hle : (l.eraseIdx i).length = l.length - 1 := by rw [List.length_eraseIdx, if_pos hi]
  rw [cnE.over_of (i := l.length - 1) rfl (by simp [hle]; omega)]
  congr 2
  have h1 : (l.eraseIdx i ++ l.drop (l.length - 1)).take (l.length - 1) = l.eraseIdx i := by rw [List.take_append_of_le_length (by omega), List.take_of_length_le (by omega)]
  have h2 : (l.eraseIdx i ++ l.drop (l.length - 1)).drop (l.length - 1 + [zCn].length) = [] := List.drop_of_length_le (by rw [List.length_append, hle, List.length_drop, List.length_singleton]; omega)
  rw [h1, h2, List.append_nil]

def Tryz.lv22 : List (List Nat) := [[0, 1, 2], [0, 1, 2], [0, 1, 2], [0], [0, 1, 2], [0, 1, 2, 7], [0, 7], [0]]
set_option maxRecDepth 100000 in
set_option maxHeartbeats 4000000 in
theorem delete_spec (l : List Cn) (i : Nat) (hi : i < l.length) (hl : l.length ≤ 1000000) :
    RetTo Tryz.prog G 22 [.slc 0 0 l.length (.opn 0 0), .int .i64 i, .int .i64 (i + 1)] [.cells (cnE.of l) 47 true true] (.slc 0 0 (l.length - 1) (.opn 0 0)) [.cells (cnE.of (l.eraseIdx i)) 47 true true] := by
  have hgr := cnGr
  have hlen := cnE.of_length l
  have hle : (l.eraseIdx i).length = l.length - 1 := by rw [List.length_eraseIdx, if_pos hi]
  refine RetTo.fin (call_body Tryz.tbOk Tryz.func22 rfl Tryz.ntmps22 rfl rfl rfl ?_) (by ((repeat' (first | exact trivial | assumption | exact AVs.le_mono (Nat.le_of_ble_eq_true rfl) _ (by assumption) | exact Nat.le_of_ble_eq_true rfl | exact Enc.Gr.le (by assumption) _ _ | exact gr_le (by assumption) _ | exact InSl.le (by assumption) _ | refine ⟨?_, ?_⟩)); (first | done | fail))) rfl (by ((repeat' (first | exact trivial | assumption | exact AVs.le_mono (Nat.le_of_ble_eq_true rfl) _ (by assumption) | exact Nat.le_of_ble_eq_true rfl | exact Enc.Gr.le (by assumption) _ _ | exact gr_le (by assumption) _ | exact InSl.le (by assumption) _ | refine ⟨?_, ?_⟩)); (first | done | fail)))
  dsimp only [initF, List.length_cons, List.length_nil, Nat.zero_add]
  repeat' (first
    | refine f_seq ?_
    | (refine f_regionL Tryz.lv22 ?_; show opsWP _ _ _ _ _ _ _ _ _)
    | (refine f_drawL Tryz.lv22 Tryz.mixed ?_; show DrK _ _ _ _ _ _ _ _ _ _)
    | (refine ops_go rfl ?_; first
        | (apply g_slo3 (i * 5) 1 (l.length - i) Tryz.tbOk; exact rfl; exact rfl; exact rfl; exact rfl; exact rfl; exact rfl; exact rfl; exact rfl; exact rfl; exact rfl; exact rfl; omega; (dsimp only; omega); (dsimp only; omega); omega; omega)
        | (apply g_slo (l.length - 1) ((l.length - 1) * 5) 1 Tryz.tbOk; exact rfl; exact rfl; exact rfl; exact rfl; exact rfl; exact rfl; exact rfl; exact rfl; exact rfl; omega; (rw [cnE.of_length, List.length_append, hle, List.length_drop]; dsimp only; omega); omega; (dsimp only; omega); omega)
        | (apply g_clear Tryz.tbOk; exact rfl; exact rfl; exact rfl; exact rfl; exact rfl; exact rfl; exact (atOk_opn rfl rfl rfl rfl (fun _ => ⟨by decide, by dsimp only; rw [cnE.of_length, List.length_append, hle, List.length_drop]; omega⟩)); exact rfl; exact rfl; exact clr_over l i hi)
        | (apply g_sum Tryz.tbOk; exact rfl; exact rfl; exact rfl; exact rfl; exact rfl; (constructor <;> omega))
        | (apply g_rem Tryz.tbOk; exact rfl; exact rfl; exact rfl; exact rfl; (first | omega | (dsimp only; omega)))
        | (apply g_quo Tryz.tbOk; exact rfl; exact rfl; exact rfl; exact rfl; (first | omega | (dsimp only; omega)); (constructor <;> omega))
        | (apply g_cat; exact rfl; exact rfl; exact rfl; (first | omega | (simp; done) | (simp; omega)))
        | (apply g_cmp Tryz.tbOk; exact rfl; exact rfl; exact rfl; exact rfl; exact rfl; intro c hc; first | (have hb := BD.yes hc (by omega); subst hb; clear hc) | (have hb := BD.no hc (by omega); subst hb; clear hc) | skip)
        | (apply g_cmpS Tryz.tbOk; exact rfl; exact rfl; exact rfl; exact rfl; intro c hc)
        | (apply g_eqW Tryz.tbOk Tryz.elOk; exact rfl; exact rfl; exact rfl; exact rfl; exact rfl; exact rfl; intro c hc)
        | (apply g_conv Tryz.tbOk; exact rfl; exact rfl; exact rfl; exact rfl; exact rfl; (constructor <;> omega))
        | (apply x_set Tryz.tbOk Tryz.elOk Tryz.xtOk; exact rfl; exact rfl)
        | (apply x_grow Tryz.tbOk Tryz.elOk Tryz.xtOk; exact rfl; exact rfl)
        | (apply x_store Tryz.tbOk Tryz.elOk Tryz.xtOk; exact rfl)
        | (apply x_setN Tryz.tbOk Tryz.elOk Tryz.xtOk; exact rfl)
        | (apply g_ixs Tryz.tbOk; exact rfl; exact rfl; exact rfl; exact rfl; exact rfl; omega)
        | (apply g_ips Tryz.tbOk; exact rfl; exact rfl; exact rfl; exact rfl; exact rfl; exact rfl; exact rfl; (first | omega | (dsimp only; omega)))
        | (apply g_sls Tryz.tbOk; exact rfl; exact rfl; exact rfl; exact rfl; exact rfl; exact rfl; omega)
        | (apply g_ixg Tryz.tbOk; exact rfl; exact rfl; exact rfl; exact rfl; exact rfl; exact rfl; (first | omega | (dsimp only; omega))))
    | refine ops_skip rfl rfl ?_
    | refine ops_nil ?_
    | refine then_n ?_
    | refine f_condT rfl ?_
    | refine f_condF rfl ?_
    | refine f_block ?_
    | refine f_exit ?_
    | refine f_ret ?_
    | refine f_skip ?_
    | refine DrK.nil rfl ?_
    | refine d_skip rfl rfl ?_
    | refine d_skipN rfl ?_
    | (apply d_slo 0 0 i Tryz.tbOk; exact rfl; exact rfl; exact rfl; exact rfl; exact rfl; exact rfl; exact rfl; exact rfl; exact rfl; exact rfl; omega; (dsimp only; omega); omega; (dsimp only; omega); omega)
    | (apply d_slo (i + 1) ((i + 1) * 5) (l.length - (i + 1)) Tryz.tbOk; exact rfl; exact rfl; exact rfl; exact rfl; exact rfl; exact rfl; exact rfl; exact rfl; exact rfl; exact rfl; omega; (dsimp only; omega); omega; (dsimp only; omega); omega)
    | (apply d_room (l.length - 1) Tryz.tbOk; exact rfl; exact rfl; exact rfl; exact rfl; exact rfl; exact rfl; exact rfl; exact rfl; exact cnE.src (i := i + 1) (atOk_opn rfl rfl rfl rfl (fun _ => ⟨by decide, by omega⟩)) rfl rfl (by omega); (dsimp only; omega); exact del_over l i hi; exact cnOne.of _; omega)
    | (apply d_any; exact rfl; exact rfl; exact st_sum Tryz.tbOk rfl rfl rfl rfl (by constructor <;> omega))
    | (refine d_bd rfl rfl (st_cmp Tryz.tbOk rfl rfl rfl rfl) ?_; intro c hc; first | (have hb := BD.yes hc (by omega); subst hb; clear hc) | (have hb := BD.no hc (by omega); subst hb; clear hc) | skip)
    | (refine d_bd rfl rfl (st_cmpS Tryz.tbOk rfl rfl rfl) ?_; intro c hc)
    | (refine d_bd rfl rfl (st_eqW Tryz.tbOk Tryz.elOk rfl rfl rfl rfl rfl) ?_; intro c hc)
    | (apply d_set Tryz.tbOk Tryz.elOk Tryz.xtOk; exact rfl; exact rfl; exact rfl)
    | (apply d_ips Tryz.tbOk; exact rfl; exact rfl; exact rfl; exact rfl; exact rfl; exact rfl; exact rfl; exact rfl; (first | omega | (dsimp only; omega)))
    | (apply d_ixg Tryz.tbOk; exact rfl; exact rfl; exact rfl; exact rfl; exact rfl; exact rfl; exact rfl; (first | omega | (dsimp only; omega)))
    | (apply d_grow Tryz.tbOk Tryz.elOk Tryz.xtOk; exact rfl; exact rfl; exact rfl)
    | (apply d_store Tryz.tbOk Tryz.elOk Tryz.xtOk; exact rfl; exact rfl)
    | refine then_x ?_
    | refine then_r ?_
    | refine blk_n ?_
    | refine blk_eq rfl ?_
    | refine blk_ne rfl ?_
    | refine blk_r ?_
    | refine loop_x ?_
    | refine loop_r ?_
    | refine cut_x ?_
    | refine cut_r ?_
    | refine body_ret rfl rfl ?_
    | refine body_end rfl rfl ?_
    | exact (rfl : AEnd.ret _ = AEnd.ret _)
    | exact ⟨rfl, _, rfl⟩
    | exact ⟨rfl, HFin.refl _⟩
    | (rename BD _ _ => hbd; cases hbd)
    | (rename ¬ _ = _ => hq; exact absurd rfl hq))
  exact ⟨rfl, OWeak.opn (cnE.of_append _ _) id, trivial⟩
end Go.Proofs
