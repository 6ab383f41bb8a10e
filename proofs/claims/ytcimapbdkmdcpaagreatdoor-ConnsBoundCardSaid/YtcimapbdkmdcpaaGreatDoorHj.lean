/- A part of the proofs over this seat: what functions of the program compute, shown once each. No statement of the seat is closed in this text. -/
import Derived.Test.YtcimapbdkmdcpaaGreatDoorHi
set_option linter.all false
set_option linter.unusedVariables false
namespace Go.Proofs
open Go.Fm
attribute [local irreducible] WP opsWP opsGo CallTo RetTo PureF StepTo StoreTo thenQ blkQ loopQ bodyQ DrK
variable (G : Nat → Nat → Option AV)

abbrev cW (sv : AV) (next : Int) : AObj := .cells [.int .i64 1, sv, .int .i64 next] 43 false true
abbrev nowO (now : Int) (wr : Bool) : AObj := .cells [.int .i64 now] 3 false wr

theorem numOld (l : List Cn) (sv : AV) (next now : Int) (hl : l.length ≤ 1000000) (hs : slOk sv l) (hn : 0 ≤ now ∧ now ≤ 1099511627775) (hg : ∀ c ∈ l, c.given ≤ 1099511627775) :
    RetTo Tryz.prog G 24 [.ptr 0 0, .fn (.func 26) [] [.ptr 2 0]] [cObj sv next, aObj l, nowO now false] (resV 3 (idsOf (oldB now) l)) ([cObj sv next, aObj l, nowO now false] ++ outO (idsOf (oldB now) l)) := by
  have hgr := cnGr
  have hsv := slOk_le hs (m := 3) (by omega)
  have h0 := numbers_spec G l sv next (oldB now) 26 (Tryz.fnOk rfl) [.ptr 2 0] [.int .i64 now] 3 rfl (by ((repeat' (first | exact trivial | assumption | exact AVs.le_mono (Nat.le_of_ble_eq_true rfl) _ (by assumption) | exact Nat.le_of_ble_eq_true rfl | exact Enc.Gr.le (by assumption) _ _ | exact gr_le (by assumption) _ | exact InSl.le (by assumption) _ | refine ⟨?_, ?_⟩)); (first | done | fail))) (fun s h => by simp [AVs.ren, AV.ren, h]) hl hs (fun c hc g => RetTo.frameR (old1_spec G c now (hg c hc) hn) [2] rfl (by ((repeat' (first | exact trivial | exact fits_enc (by assumption) (fun _ => rfl) | exact fits_enc (by assumption) (fun h => h) | exact ⟨_, rfl, fun _ => rfl⟩ | exact ⟨_, rfl, fun h => h⟩ | refine ⟨?_, ?_⟩)); (first | done | fail))) (by ((repeat' (first | exact trivial | assumption | exact AVs.le_mono (Nat.le_of_ble_eq_true rfl) _ (by assumption) | exact Nat.le_of_ble_eq_true rfl | exact Enc.Gr.le (by assumption) _ _ | exact gr_le (by assumption) _ | exact InSl.le (by assumption) _ | refine ⟨?_, ?_⟩)); (first | done | fail))) (by ((repeat' (first | exact trivial | assumption | exact AVs.le_mono (Nat.le_of_ble_eq_true rfl) _ (by assumption) | exact Nat.le_of_ble_eq_true rfl | exact Enc.Gr.le (by assumption) _ _ | exact gr_le (by assumption) _ | exact InSl.le (by assumption) _ | refine ⟨?_, ?_⟩)); (first | done | fail))) rfl rfl (List.append_nil _))
  generalize idsOf (oldB now) l = ids at h0 ⊢
  cases ids with
  | nil => exact RetTo.fin h0 trivial rfl ⟨⟨trivial, hsv, trivial, trivial⟩, cnGr.le _ _, ⟨trivial, trivial⟩, trivial⟩
  | cons a t => exact RetTo.fin h0 (by ((repeat' (first | exact trivial | assumption | exact AVs.le_mono (Nat.le_of_ble_eq_true rfl) _ (by assumption) | exact Nat.le_of_ble_eq_true rfl | exact Enc.Gr.le (by assumption) _ _ | exact gr_le (by assumption) _ | exact InSl.le (by assumption) _ | refine ⟨?_, ?_⟩)); (first | done | fail))) rfl ⟨⟨trivial, AV.le_mono (Nat.le_of_ble_eq_true rfl) _ hsv, trivial, trivial⟩, cnGr.le _ _, ⟨trivial, trivial⟩, intGr.le _ _, trivial⟩

set_option maxRecDepth 100000 in
set_option maxHeartbeats 4000000 in
theorem old0_spec (l : List Cn) (sv : AV) (next now : Int) (hl : l.length ≤ 1000000) (hs : slOk sv l) (hn : 0 ≤ now ∧ now ≤ 1099511627775) (hg : ∀ c ∈ l, c.given ≤ 1099511627775) (h0 : idsOf (oldB now) l = []) :
    RetTo Tryz.prog G 12 [.ptr 0 0, .int .i64 now] [cObj sv next, aObj l] .nils [cObj sv next, aObj l] := by
  have hgr := cnGr
  have hsv := slOk_le hs (m := 3) (by omega)
  have hN := numOld G l sv next now hl hs hn hg
  rw [h0] at hN
  have hc : HLe 3 [cObj sv next, aObj l, nowO now false] := ⟨⟨trivial, hsv, trivial, trivial⟩, cnGr.le _ _, ⟨trivial, trivial⟩, trivial⟩
  refine RetTo.drop (call_body Tryz.tbOk Tryz.func12 rfl Tryz.ntmps12 rfl rfl rfl ?_) (by ((repeat' (first | exact trivial | assumption | exact AVs.le_mono (Nat.le_of_ble_eq_true rfl) _ (by assumption) | exact Nat.le_of_ble_eq_true rfl | exact Enc.Gr.le (by assumption) _ _ | exact gr_le (by assumption) _ | exact InSl.le (by assumption) _ | refine ⟨?_, ?_⟩)); (first | done | fail)))
  dsimp only [initF, List.length_cons, List.length_nil, Nat.zero_add]
  rcases hs with ⟨rfl, rfl⟩ | rfl
  · repeat' (first
      | refine f_seq ?_
      | refine f_region ?_
      | refine f_draw Tryz.mixed ?_
      | (refine ops_go rfl ?_; first
          | (apply g_ret; exact rfl; exact rfl; exact Tryz.fnOk rfl; exact RetTo.frameR hN [0, 1, 2] rfl (by ((repeat' (first | exact trivial | exact fits_enc (by assumption) (fun _ => rfl) | exact fits_enc (by assumption) (fun h => h) | exact ⟨_, rfl, fun _ => rfl⟩ | exact ⟨_, rfl, fun h => h⟩ | refine ⟨?_, ?_⟩)); (first | done | fail))) hc (by ((repeat' (first | exact trivial | assumption | exact AVs.le_mono (Nat.le_of_ble_eq_true rfl) _ (by assumption) | exact Nat.le_of_ble_eq_true rfl | exact Enc.Gr.le (by assumption) _ _ | exact gr_le (by assumption) _ | exact InSl.le (by assumption) _ | refine ⟨?_, ?_⟩)); (first | done | fail))) rfl rfl rfl)
          | (apply g_sum Tryz.tbOk; exact rfl; exact rfl; exact rfl; exact rfl; exact rfl; (constructor <;> omega))
          | (apply g_rem Tryz.tbOk; exact rfl; exact rfl; exact rfl; exact rfl; (first | omega | (dsimp only; omega)))
          | (apply g_quo Tryz.tbOk; exact rfl; exact rfl; exact rfl; exact rfl; (first | omega | (dsimp only; omega)); (constructor <;> omega))
          | (apply g_cat; exact rfl; exact rfl; exact rfl; (first | omega | (simp; done) | (simp; omega)))
          | (apply g_cmp Tryz.tbOk; exact rfl; exact rfl; exact rfl; exact rfl; exact rfl; intro c hc; first | (have hb := BD.yes hc (by omega); subst hb; clear hc) | (have hb := BD.no hc (by omega); subst hb; clear hc) | skip)
          | (apply g_cmpS Tryz.tbOk; exact rfl; exact rfl; exact rfl; exact rfl; intro c hc)
          | (apply g_eqW Tryz.tbOk Tryz.elOk; exact rfl; exact rfl; exact rfl; exact rfl; exact rfl; exact rfl; intro c hc)
          | (apply g_conv Tryz.tbOk; exact rfl; exact rfl; exact rfl; exact rfl; exact rfl; (constructor <;> omega))
          | (apply x_set Tryz.tbOk Tryz.elOk Tryz.xtOk; exact rfl; exact rfl)
          | (apply x_grow Tryz.tbOk Tryz.elOk Tryz.xtOk; exact rfl; exact rfl)
          | (apply x_store Tryz.tbOk Tryz.elOk Tryz.xtOk; exact rfl)
          | (apply x_setN Tryz.tbOk Tryz.elOk Tryz.xtOk; exact rfl)
          | (apply g_ixs Tryz.tbOk; exact rfl; exact rfl; exact rfl; exact rfl; exact rfl; omega)
          | (apply g_ips Tryz.tbOk; exact rfl; exact rfl; exact rfl; exact rfl; exact rfl; exact rfl; exact rfl; (first | omega | (dsimp only; omega)))
          | (apply g_sls Tryz.tbOk; exact rfl; exact rfl; exact rfl; exact rfl; exact rfl; exact rfl; omega)
          | (apply g_ixg Tryz.tbOk; exact rfl; exact rfl; exact rfl; exact rfl; exact rfl; exact rfl; (first | omega | (dsimp only; omega))))
      | refine ops_skip rfl rfl ?_
      | refine ops_nil ?_
      | refine then_n ?_
      | refine f_condT rfl ?_
      | refine f_condF rfl ?_
      | refine f_block ?_
      | refine f_exit ?_
      | refine f_ret ?_
      | refine f_skip ?_
      | refine DrK.nil rfl ?_
      | refine d_skip rfl rfl ?_
      | refine d_skipN rfl ?_
      | (apply d_any; exact rfl; exact rfl; exact st_sum Tryz.tbOk rfl rfl rfl rfl (by constructor <;> omega))
      | (refine d_bd rfl rfl (st_cmp Tryz.tbOk rfl rfl rfl rfl) ?_; intro c hc; first | (have hb := BD.yes hc (by omega); subst hb; clear hc) | (have hb := BD.no hc (by omega); subst hb; clear hc) | skip)
      | (refine d_bd rfl rfl (st_cmpS Tryz.tbOk rfl rfl rfl) ?_; intro c hc)
      | (refine d_bd rfl rfl (st_eqW Tryz.tbOk Tryz.elOk rfl rfl rfl rfl rfl) ?_; intro c hc)
      | (apply d_set Tryz.tbOk Tryz.elOk Tryz.xtOk; exact rfl; exact rfl; exact rfl)
      | (apply d_ips Tryz.tbOk; exact rfl; exact rfl; exact rfl; exact rfl; exact rfl; exact rfl; exact rfl; exact rfl; (first | omega | (dsimp only; omega)))
      | (apply d_ixg Tryz.tbOk; exact rfl; exact rfl; exact rfl; exact rfl; exact rfl; exact rfl; exact rfl; (first | omega | (dsimp only; omega)))
      | (apply d_grow Tryz.tbOk Tryz.elOk Tryz.xtOk; exact rfl; exact rfl; exact rfl)
      | (apply d_store Tryz.tbOk Tryz.elOk Tryz.xtOk; exact rfl; exact rfl)
      | refine then_x ?_
      | refine then_r ?_
      | refine blk_n ?_
      | refine blk_eq rfl ?_
      | refine blk_ne rfl ?_
      | refine blk_r ?_
      | refine loop_x ?_
      | refine loop_r ?_
      | refine cut_x ?_
      | refine cut_r ?_
      | refine body_ret rfl rfl ?_
      | refine body_end rfl rfl ?_
      | exact (rfl : AEnd.ret _ = AEnd.ret _)
      | exact ⟨rfl, _, rfl⟩
      | exact ⟨rfl, HFin.refl _⟩
      | (rename BD _ _ => hbd; cases hbd)
      | (rename ¬ _ = _ => hq; exact absurd rfl hq))
  · repeat' (first
      | refine f_seq ?_
      | refine f_region ?_
      | refine f_draw Tryz.mixed ?_
      | (refine ops_go rfl ?_; first
          | (apply g_ret; exact rfl; exact rfl; exact Tryz.fnOk rfl; exact RetTo.frameR hN [0, 1, 2] rfl (by ((repeat' (first | exact trivial | exact fits_enc (by assumption) (fun _ => rfl) | exact fits_enc (by assumption) (fun h => h) | exact ⟨_, rfl, fun _ => rfl⟩ | exact ⟨_, rfl, fun h => h⟩ | refine ⟨?_, ?_⟩)); (first | done | fail))) hc (by ((repeat' (first | exact trivial | assumption | exact AVs.le_mono (Nat.le_of_ble_eq_true rfl) _ (by assumption) | exact Nat.le_of_ble_eq_true rfl | exact Enc.Gr.le (by assumption) _ _ | exact gr_le (by assumption) _ | exact InSl.le (by assumption) _ | refine ⟨?_, ?_⟩)); (first | done | fail))) rfl rfl rfl)
          | (apply g_sum Tryz.tbOk; exact rfl; exact rfl; exact rfl; exact rfl; exact rfl; (constructor <;> omega))
          | (apply g_rem Tryz.tbOk; exact rfl; exact rfl; exact rfl; exact rfl; (first | omega | (dsimp only; omega)))
          | (apply g_quo Tryz.tbOk; exact rfl; exact rfl; exact rfl; exact rfl; (first | omega | (dsimp only; omega)); (constructor <;> omega))
          | (apply g_cat; exact rfl; exact rfl; exact rfl; (first | omega | (simp; done) | (simp; omega)))
          | (apply g_cmp Tryz.tbOk; exact rfl; exact rfl; exact rfl; exact rfl; exact rfl; intro c hc; first | (have hb := BD.yes hc (by omega); subst hb; clear hc) | (have hb := BD.no hc (by omega); subst hb; clear hc) | skip)
          | (apply g_cmpS Tryz.tbOk; exact rfl; exact rfl; exact rfl; exact rfl; intro c hc)
          | (apply g_eqW Tryz.tbOk Tryz.elOk; exact rfl; exact rfl; exact rfl; exact rfl; exact rfl; exact rfl; intro c hc)
          | (apply g_conv Tryz.tbOk; exact rfl; exact rfl; exact rfl; exact rfl; exact rfl; (constructor <;> omega))
          | (apply x_set Tryz.tbOk Tryz.elOk Tryz.xtOk; exact rfl; exact rfl)
          | (apply x_grow Tryz.tbOk Tryz.elOk Tryz.xtOk; exact rfl; exact rfl)
          | (apply x_store Tryz.tbOk Tryz.elOk Tryz.xtOk; exact rfl)
          | (apply x_setN Tryz.tbOk Tryz.elOk Tryz.xtOk; exact rfl)
          | (apply g_ixs Tryz.tbOk; exact rfl; exact rfl; exact rfl; exact rfl; exact rfl; omega)
          | (apply g_ips Tryz.tbOk; exact rfl; exact rfl; exact rfl; exact rfl; exact rfl; exact rfl; exact rfl; (first | omega | (dsimp only; omega)))
          | (apply g_sls Tryz.tbOk; exact rfl; exact rfl; exact rfl; exact rfl; exact rfl; exact rfl; omega)
          | (apply g_ixg Tryz.tbOk; exact rfl; exact rfl; exact rfl; exact rfl; exact rfl; exact rfl; (first | omega | (dsimp only; omega))))
      | refine ops_skip rfl rfl ?_
      | refine ops_nil ?_
      | refine then_n ?_
      | refine f_condT rfl ?_
      | refine f_condF rfl ?_
      | refine f_block ?_
      | refine f_exit ?_
      | refine f_ret ?_
      | refine f_skip ?_
      | refine DrK.nil rfl ?_
      | refine d_skip rfl rfl ?_
      | refine d_skipN rfl ?_
      | (apply d_any; exact rfl; exact rfl; exact st_sum Tryz.tbOk rfl rfl rfl rfl (by constructor <;> omega))
      | (refine d_bd rfl rfl (st_cmp Tryz.tbOk rfl rfl rfl rfl) ?_; intro c hc; first | (have hb := BD.yes hc (by omega); subst hb; clear hc) | (have hb := BD.no hc (by omega); subst hb; clear hc) | skip)
      | (refine d_bd rfl rfl (st_cmpS Tryz.tbOk rfl rfl rfl) ?_; intro c hc)
      | (refine d_bd rfl rfl (st_eqW Tryz.tbOk Tryz.elOk rfl rfl rfl rfl rfl) ?_; intro c hc)
      | (apply d_set Tryz.tbOk Tryz.elOk Tryz.xtOk; exact rfl; exact rfl; exact rfl)
      | (apply d_ips Tryz.tbOk; exact rfl; exact rfl; exact rfl; exact rfl; exact rfl; exact rfl; exact rfl; exact rfl; (first | omega | (dsimp only; omega)))
      | (apply d_ixg Tryz.tbOk; exact rfl; exact rfl; exact rfl; exact rfl; exact rfl; exact rfl; exact rfl; (first | omega | (dsimp only; omega)))
      | (apply d_grow Tryz.tbOk Tryz.elOk Tryz.xtOk; exact rfl; exact rfl; exact rfl)
      | (apply d_store Tryz.tbOk Tryz.elOk Tryz.xtOk; exact rfl; exact rfl)
      | refine then_x ?_
      | refine then_r ?_
      | refine blk_n ?_
      | refine blk_eq rfl ?_
      | refine blk_ne rfl ?_
      | refine blk_r ?_
      | refine loop_x ?_
      | refine loop_r ?_
      | refine cut_x ?_
      | refine cut_r ?_
      | refine body_ret rfl rfl ?_
      | refine body_end rfl rfl ?_
      | exact (rfl : AEnd.ret _ = AEnd.ret _)
      | exact ⟨rfl, _, rfl⟩
      | exact ⟨rfl, HFin.refl _⟩
      | (rename BD _ _ => hbd; cases hbd)
      | (rename ¬ _ = _ => hq; exact absurd rfl hq))

set_option maxRecDepth 100000 in
set_option maxHeartbeats 4000000 in
theorem old_spec (l : List Cn) (next now : Int) (hl : l.length ≤ 1000000) (hn : 0 ≤ now ∧ now ≤ 1099511627775) (hg : ∀ c ∈ l, c.given ≤ 1099511627775) (a : Int) (t : List Int) (h0 : idsOf (oldB now) l = a :: t) :
    RetTo Tryz.prog G 12 [.ptr 0 0, .int .i64 now] [cW (.slc 1 0 l.length (.opn 0 0)) next, aW l] (resV 3 (a :: t)) [cW (.slc 1 0 (l.filter fun c => !oldB now c).length (.opn 0 0)) next, aW (l.filter fun c => !oldB now c), .dead, .cells (intE.of (a :: t)) 3 true true] := by
  have hgr := cnGr
  have hgi := intGr
  have hN := numOld G l (.slc 1 0 l.length (.opn 0 0)) next now hl (.inr rfl) hn hg
  rw [h0] at hN
  have hex : ∃ c ∈ l, oldB now c = true := by
    have : a ∈ idsOf (oldB now) l := by rw [h0]; simp
    unfold idsOf at this
    rw [List.mem_map] at this
    obtain ⟨c, hc, _⟩ := this
    exact ⟨c, (List.mem_filter.1 hc).1, (List.mem_filter.1 hc).2⟩
  have hD := deleteF_spec G l (oldB now) 26 (Tryz.fnOk rfl) [.ptr 1 0] [.int .i64 now] 3 rfl (by ((repeat' (first | exact trivial | assumption | exact AVs.le_mono (Nat.le_of_ble_eq_true rfl) _ (by assumption) | exact Nat.le_of_ble_eq_true rfl | exact Enc.Gr.le (by assumption) _ _ | exact gr_le (by assumption) _ | exact InSl.le (by assumption) _ | refine ⟨?_, ?_⟩)); (first | done | fail))) (fun s h => by simp [AVs.ren, AV.ren, h]) hl hex (fun c hc cur g => RetTo.frameR (old1_spec G c now (hg c hc) hn) [1] rfl (by ((repeat' (first | exact trivial | exact fits_enc (by assumption) (fun _ => rfl) | exact fits_enc (by assumption) (fun h => h) | exact ⟨_, rfl, fun _ => rfl⟩ | exact ⟨_, rfl, fun h => h⟩ | refine ⟨?_, ?_⟩)); (first | done | fail))) (by ((repeat' (first | exact trivial | assumption | exact AVs.le_mono (Nat.le_of_ble_eq_true rfl) _ (by assumption) | exact Nat.le_of_ble_eq_true rfl | exact Enc.Gr.le (by assumption) _ _ | exact gr_le (by assumption) _ | exact InSl.le (by assumption) _ | refine ⟨?_, ?_⟩)); (first | done | fail))) (by ((repeat' (first | exact trivial | assumption | exact AVs.le_mono (Nat.le_of_ble_eq_true rfl) _ (by assumption) | exact Nat.le_of_ble_eq_true rfl | exact Enc.Gr.le (by assumption) _ _ | exact gr_le (by assumption) _ | exact InSl.le (by assumption) _ | refine ⟨?_, ?_⟩)); (first | done | fail))) rfl rfl (List.append_nil _))
  have hpos : (0 : Int) < ((a :: t).length : Int) := by simp only [List.length_cons]; omega
  refine RetTo.fin (call_body Tryz.tbOk Tryz.func12 rfl Tryz.ntmps12 rfl rfl rfl ?_) (by ((repeat' (first | exact trivial | assumption | exact AVs.le_mono (Nat.le_of_ble_eq_true rfl) _ (by assumption) | exact Nat.le_of_ble_eq_true rfl | exact Enc.Gr.le (by assumption) _ _ | exact gr_le (by assumption) _ | exact InSl.le (by assumption) _ | refine ⟨?_, ?_⟩)); (first | done | fail))) rfl (by ((repeat' (first | exact trivial | assumption | exact AVs.le_mono (Nat.le_of_ble_eq_true rfl) _ (by assumption) | exact Nat.le_of_ble_eq_true rfl | exact Enc.Gr.le (by assumption) _ _ | exact gr_le (by assumption) _ | exact InSl.le (by assumption) _ | refine ⟨?_, ?_⟩)); (first | done | fail)))
  dsimp only [initF, List.length_cons, List.length_nil, Nat.zero_add]
  repeat' (first
    | refine f_seq ?_
    | refine f_region ?_
    | refine f_draw Tryz.mixed ?_
    | (refine ops_go rfl ?_; first
        | (apply g_ret (h' := [cW (.slc 1 0 l.length (.opn 0 0)) next, aW l, nowO now true, .cells (intE.of (a :: t)) 3 true true]); exact rfl; exact rfl; exact Tryz.fnOk rfl; exact RetTo.frameX hN [0, 1, 2] rfl (by ((repeat' (first | exact trivial | exact fits_enc (by assumption) (fun _ => rfl) | exact fits_enc (by assumption) (fun h => h) | exact ⟨_, rfl, fun _ => rfl⟩ | exact ⟨_, rfl, fun h => h⟩ | refine ⟨?_, ?_⟩)); (first | done | fail))) (by ((repeat' (first | exact trivial | assumption | exact AVs.le_mono (Nat.le_of_ble_eq_true rfl) _ (by assumption) | exact Nat.le_of_ble_eq_true rfl | exact Enc.Gr.le (by assumption) _ _ | exact gr_le (by assumption) _ | exact InSl.le (by assumption) _ | refine ⟨?_, ?_⟩)); (first | done | fail))) (by ((repeat' (first | exact trivial | assumption | exact AVs.le_mono (Nat.le_of_ble_eq_true rfl) _ (by assumption) | exact Nat.le_of_ble_eq_true rfl | exact Enc.Gr.le (by assumption) _ _ | exact gr_le (by assumption) _ | exact InSl.le (by assumption) _ | refine ⟨?_, ?_⟩)); (first | done | fail))) rfl rfl (by show _ ++ [AObj.cells (AVs.ren _ (intE.of (a :: t))) _ _ _] = _; rw [intGr.ren]; rfl))
        | (apply g_ret (h' := [cW (.slc 1 0 l.length (.opn 0 0)) next, aW (l.filter fun c => !oldB now c), nowO now true, .cells (intE.of (a :: t)) 3 true true]); exact rfl; exact rfl; exact Tryz.fnOk rfl; exact RetTo.frameX hD [1, 2] rfl (by ((repeat' (first | exact trivial | exact fits_enc (by assumption) (fun _ => rfl) | exact fits_enc (by assumption) (fun h => h) | exact ⟨_, rfl, fun _ => rfl⟩ | exact ⟨_, rfl, fun h => h⟩ | refine ⟨?_, ?_⟩)); (first | done | fail))) (by ((repeat' (first | exact trivial | assumption | exact AVs.le_mono (Nat.le_of_ble_eq_true rfl) _ (by assumption) | exact Nat.le_of_ble_eq_true rfl | exact Enc.Gr.le (by assumption) _ _ | exact gr_le (by assumption) _ | exact InSl.le (by assumption) _ | refine ⟨?_, ?_⟩)); (first | done | fail))) (by ((repeat' (first | exact trivial | assumption | exact AVs.le_mono (Nat.le_of_ble_eq_true rfl) _ (by assumption) | exact Nat.le_of_ble_eq_true rfl | exact Enc.Gr.le (by assumption) _ _ | exact gr_le (by assumption) _ | exact InSl.le (by assumption) _ | refine ⟨?_, ?_⟩)); (first | done | fail))) rfl rfl (by show setNth _ 1 (AObj.cells (AVs.ren _ (cnE.of _)) _ _ _) ++ [] = _; rw [cnGr.ren]; rfl))
        | (apply g_sum Tryz.tbOk; exact rfl; exact rfl; exact rfl; exact rfl; exact rfl; (constructor <;> omega))
        | (apply g_rem Tryz.tbOk; exact rfl; exact rfl; exact rfl; exact rfl; (first | omega | (dsimp only; omega)))
        | (apply g_quo Tryz.tbOk; exact rfl; exact rfl; exact rfl; exact rfl; (first | omega | (dsimp only; omega)); (constructor <;> omega))
        | (apply g_cat; exact rfl; exact rfl; exact rfl; (first | omega | (simp; done) | (simp; omega)))
        | (apply g_cmp Tryz.tbOk; exact rfl; exact rfl; exact rfl; exact rfl; exact rfl; intro c hc; first | (have hb := BD.yes hc (by omega); subst hb; clear hc) | (have hb := BD.no hc (by omega); subst hb; clear hc) | skip)
        | (apply g_cmpS Tryz.tbOk; exact rfl; exact rfl; exact rfl; exact rfl; intro c hc)
        | (apply g_eqW Tryz.tbOk Tryz.elOk; exact rfl; exact rfl; exact rfl; exact rfl; exact rfl; exact rfl; intro c hc)
        | (apply g_conv Tryz.tbOk; exact rfl; exact rfl; exact rfl; exact rfl; exact rfl; (constructor <;> omega))
        | (apply x_set Tryz.tbOk Tryz.elOk Tryz.xtOk; exact rfl; exact rfl)
        | (apply x_grow Tryz.tbOk Tryz.elOk Tryz.xtOk; exact rfl; exact rfl)
        | (apply x_store Tryz.tbOk Tryz.elOk Tryz.xtOk; exact rfl)
        | (apply x_setN Tryz.tbOk Tryz.elOk Tryz.xtOk; exact rfl)
        | (apply g_ixs Tryz.tbOk; exact rfl; exact rfl; exact rfl; exact rfl; exact rfl; omega)
        | (apply g_ips Tryz.tbOk; exact rfl; exact rfl; exact rfl; exact rfl; exact rfl; exact rfl; exact rfl; (first | omega | (dsimp only; omega)))
        | (apply g_sls Tryz.tbOk; exact rfl; exact rfl; exact rfl; exact rfl; exact rfl; exact rfl; omega)
        | (apply g_ixg Tryz.tbOk; exact rfl; exact rfl; exact rfl; exact rfl; exact rfl; exact rfl; (first | omega | (dsimp only; omega))))
    | refine ops_skip rfl rfl ?_
    | refine ops_nil ?_
    | refine then_n ?_
    | refine f_condT rfl ?_
    | refine f_condF rfl ?_
    | refine f_block ?_
    | refine f_exit ?_
    | refine f_ret ?_
    | refine f_skip ?_
    | refine DrK.nil rfl ?_
    | refine d_skip rfl rfl ?_
    | refine d_skipN rfl ?_
    | (apply d_any; exact rfl; exact rfl; exact st_sum Tryz.tbOk rfl rfl rfl rfl (by constructor <;> omega))
    | (refine d_bd rfl rfl (st_cmp Tryz.tbOk rfl rfl rfl rfl) ?_; intro c hc; first | (have hb := BD.yes hc (by omega); subst hb; clear hc) | (have hb := BD.no hc (by omega); subst hb; clear hc) | skip)
    | (refine d_bd rfl rfl (st_cmpS Tryz.tbOk rfl rfl rfl) ?_; intro c hc)
    | (refine d_bd rfl rfl (st_eqW Tryz.tbOk Tryz.elOk rfl rfl rfl rfl rfl) ?_; intro c hc)
    | (apply d_set Tryz.tbOk Tryz.elOk Tryz.xtOk; exact rfl; exact rfl; exact rfl)
    | (apply d_ips Tryz.tbOk; exact rfl; exact rfl; exact rfl; exact rfl; exact rfl; exact rfl; exact rfl; exact rfl; (first | omega | (dsimp only; omega)))
    | (apply d_ixg Tryz.tbOk; exact rfl; exact rfl; exact rfl; exact rfl; exact rfl; exact rfl; exact rfl; (first | omega | (dsimp only; omega)))
    | (apply d_grow Tryz.tbOk Tryz.elOk Tryz.xtOk; exact rfl; exact rfl; exact rfl)
    | (apply d_store Tryz.tbOk Tryz.elOk Tryz.xtOk; exact rfl; exact rfl)
    | refine then_x ?_
    | refine then_r ?_
    | refine blk_n ?_
    | refine blk_eq rfl ?_
    | refine blk_ne rfl ?_
    | refine blk_r ?_
    | refine loop_x ?_
    | refine loop_r ?_
    | refine cut_x ?_
    | refine cut_r ?_
    | refine body_ret rfl rfl ?_
    | refine body_end rfl rfl ?_
    | exact (rfl : AEnd.ret _ = AEnd.ret _)
    | exact ⟨rfl, _, rfl⟩
    | exact ⟨rfl, HFin.refl _⟩
    | (rename BD _ _ => hbd; cases hbd)
    | (rename ¬ _ = _ => hq; exact absurd rfl hq))
  exact ⟨rfl, OWeak.refl _, OWeak.refl _, trivial, OWeak.refl _, trivial⟩
end Go.Proofs
