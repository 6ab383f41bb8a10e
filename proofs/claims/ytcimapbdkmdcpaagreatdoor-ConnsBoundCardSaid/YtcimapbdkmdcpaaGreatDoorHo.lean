/- A part of the proofs over this seat: what functions of the program compute, shown once each. No statement of the seat is closed in this text. -/
import Derived.Test.YtcimapbdkmdcpaaGreatDoorHn
set_option linter.all false
set_option linter.unusedVariables false
namespace Go.Proofs
open Go.Fm
attribute [local irreducible] WP opsWP opsGo CallTo RetTo PureF StepTo StoreTo thenQ blkQ loopQ bodyQ DrK
variable (G : Nat → Nat → Option AV)

def outD : List Int → AObj
  | [] => .dead
  | x :: t => .cells (intE.of (x :: t)) 3 true true
theorem outV_len (i : Nat) (l : List Int) : lenW (outV i l) = some l.length := by cases l <;> rfl

/-- Take, beside two other objects. -/
theorem take_fr (l : List Cn) (next now : Int) (k : Ky) (hmay : PureF Tryz.prog G 15 [.agg k.cells] (.bool true)) (hl : l.length ≤ 1000) (hn : 0 ≤ now ∧ now ≤ 300) (hg : ∀ c ∈ l, c.given ≤ 300) (hnx : 0 ≤ next ∧ next ≤ 1000000) (o3 o4 : AObj) :
    CallTo Tryz.prog G 8 [.ptr 0 0, .agg k.cells, .int .i64 now] [cW (.slc 1 0 l.length (.opn 0 0)) next, aW l, o3, o4]
      (fun e h' => ∃ id fresh err l' next', e = .ret (.tup [.int .i64 id, .bool fresh, .int .i64 err]) ∧ TakePost l next k id fresh err l' next' ∧
        (h' = [cW (.slc 1 0 l'.length (.opn 0 0)) next', aW l', o3, o4] ∨ h' = [cW (.slc 4 0 l'.length (.opn 0 0)) next', .dead, o3, o4, aW l'])) := by
  have hgr := cnGr
  have h0 := (take_spec G l next now k hmay hl hn hg hnx).frame (h := [cW (.slc 1 0 l.length (.opn 0 0)) next, aW l, o3, o4]) [0, 1] rfl (by ((repeat' (first | exact trivial | exact fits_enc (by assumption) (fun _ => rfl) | exact fits_enc (by assumption) (fun h => h) | exact ⟨_, rfl, fun _ => rfl⟩ | exact ⟨_, rfl, fun h => h⟩ | refine ⟨?_, ?_⟩)); (first | done | fail))) (HLe.mem (by ((repeat' (first | exact trivial | assumption | exact AVs.le_mono (Nat.le_of_ble_eq_true rfl) _ (by assumption) | exact Nat.le_of_ble_eq_true rfl | exact Enc.Gr.le (by assumption) _ _ | exact gr_le (by assumption) _ | exact InSl.le (by assumption) _ | refine ⟨?_, ?_⟩)); (first | done | fail)))) (by ((repeat' (first | exact trivial | assumption | exact AVs.le_mono (Nat.le_of_ble_eq_true rfl) _ (by assumption) | exact Nat.le_of_ble_eq_true rfl | exact Enc.Gr.le (by assumption) _ _ | exact gr_le (by assumption) _ | exact InSl.le (by assumption) _ | refine ⟨?_, ?_⟩)); (first | done | fail)))
  refine CallTo.mono h0 ?_
  rintro e h' ⟨e0, h0', ⟨id, fresh, err, l', next', rfl, hp, rfl | rfl⟩, rfl, rfl⟩
  · refine ⟨id, fresh, err, l', next', rfl, hp, .inl ?_⟩
    show setNth (setNth _ 0 (AObj.cells _ _ _ _)) 1 (AObj.cells (AVs.ren _ (cnE.of l')) _ _ _) ++ [] = _
    rw [cnGr.ren]; rfl
  · refine ⟨id, fresh, err, l', next', rfl, hp, .inr ?_⟩
    show setNth (setNth _ 0 (AObj.cells _ _ _ _)) 1 AObj.dead ++ [AObj.cells (AVs.ren _ (cnE.of l')) _ _ _] = _
    rw [cnGr.ren]; rfl

/-- The states of ConnsBound between rounds. -/
abbrev cbSt := Nat × Option (List Cn × Int × List Int)
def mineV : Option (List Cn × Int × List Int) → AV
  | none => .nils
  | some (l, next, mine) => outV 2 mine
def cbF (tv gv : AV) (x : cbSt) : Fm.Frame := [((0 : Nat), tv), (1, gv), (5, .ptr 0 0), (6, mineV x.2), (7, .int .i64 x.1)]
def cbH : cbSt → Fm.Heap
  | (i, none) => [cW .nils 0]
  | (i, some (l, next, mine)) => [cW (.slc 1 0 l.length (.opn 0 0)) next, aW l, outD mine]
def cbI (n : Nat) : cbSt → Prop
  | (i, none) => i ≤ n ∧ i = 0
  | (i, some (l, next, mine)) => i ≤ n ∧ Inv i l next mine ∧ l ≠ []

theorem ky_eq {x : Cn} {k : Ky} : (x.sealed == k.sealed && (x.host == k.host && (x.port == k.port && true))) = true ↔ x.k = k := by
  cases k; simp [Cn.k]
theorem give_cat (a : Int) (t : List Int) (m : Nat) : intE.of ((List.drop 0 (a :: t)).take (m + 1)) ++ intE.of (((a :: t).drop (m + 1 + 1)).take ((a :: t).length - (m + 1 + 1))) = intE.of (a :: (t.take m ++ t.drop (m + 1))) := by
  rw [← intE.of_append, List.drop_zero, List.take_succ_cons, List.drop_succ_cons, show (t.drop (m + 1)).take ((a :: t).length - (m + 1 + 1)) = t.drop (m + 1) from List.take_of_length_le (by simp), List.cons_append]
theorem inv_first (k : Ky) : Inv (0 + 1) [nCn 0 k] 1 ([] ++ [0]) := by
  refine ⟨by simp, by simp, by simp, by simp, by simp, fun k' => ?_, by simp, by simp⟩
  unfold cnt
  exact Nat.le_trans (List.length_filter_le _ _) (by simp)

def Tryz.lv3 : List (List Nat) := [[0, 1], [0, 1], [], [0, 1], [0, 1, 5], [0, 1, 5, 6], [0, 1, 5, 6, 7], [0, 1, 5, 6, 7], [0, 1, 5, 6, 7], [0, 1, 5, 6, 7, 8], [0, 1, 5, 6, 7, 8, 9, 11], [0, 1, 5, 6, 7, 8, 9], [0, 1, 5, 6, 7, 8, 9, 12, 13], [], [0, 1, 5, 6, 7, 8, 9], [0, 1, 5, 6, 7, 8, 9, 14], [0, 1, 5, 6, 7, 8, 9, 14], [0, 1, 5, 6, 7, 8, 9, 14], [], [0, 1, 5, 6, 7, 8, 9], [0, 1, 5, 6, 7, 8], [0, 1, 5, 6, 7, 8], [0, 1, 5, 6, 7, 8, 15], [], [0, 1, 5, 6, 7, 8, 15], [0, 1, 5, 6, 7, 8], [0, 1, 5, 6, 7, 8, 16], [0, 1, 5, 6, 7, 8, 16, 17], [0, 1, 5, 6, 7, 8, 16, 17, 18], [0, 1, 5, 6, 7, 8, 16, 17, 18], [0, 1, 5, 6, 7, 8, 16, 17, 18], [0, 1, 5, 6, 7, 8, 16, 17, 18, 19], [0, 1, 5, 6, 7, 8, 16, 17, 18], [0, 1, 5, 6, 7, 16, 17], [], []]
set_option maxRecDepth 100000 in
set_option maxHeartbeats 4000000 in
theorem bound_short (T Gs : List UInt8) (tv gv : AV) (hT : InSl u8E G T tv) (hG : InSl u8E G Gs gv) (h300 : T.length ≤ 300) :
    CallTo Tryz.prog G 3 [tv, gv] [] (fun e _ => e = .ret (.bool true)) := by
  have hgr := cnGr
  have hgi := intGr
  have htr := hT.ren
  have hgvr := hG.ren
  refine call_body Tryz.tbOk Tryz.func3 rfl Tryz.ntmps3 rfl rfl rfl ?_
  dsimp only [initF, List.length_cons, List.length_nil, Nat.zero_add]
  repeat' (first
    | refine f_seq ?_
    | (refine f_regionL Tryz.lv3 ?_; show opsWP _ _ _ _ _ _ _ _ _)
    | (refine f_drawL Tryz.lv3 Tryz.mixed ?_; show DrK _ _ _ _ _ _ _ _ _ _)
    | (refine ops_go rfl ?_; first
        | (apply g_len Tryz.tbOk; exact rfl; exact rfl; exact rfl; exact rfl; exact hT.len)
        | (apply g_ret; exact rfl; exact rfl; exact Tryz.fnOk rfl; exact new_spec G)
        | (apply g_sum Tryz.tbOk; exact rfl; exact rfl; exact rfl; exact rfl; exact rfl; (constructor <;> omega))
        | (apply g_rem Tryz.tbOk; exact rfl; exact rfl; exact rfl; exact rfl; (first | omega | (dsimp only; omega)))
        | (apply g_quo Tryz.tbOk; exact rfl; exact rfl; exact rfl; exact rfl; (first | omega | (dsimp only; omega)); (constructor <;> omega))
        | (apply g_cat; exact rfl; exact rfl; exact rfl; (first | omega | (simp; done) | (simp; omega)))
        | (apply g_cmp Tryz.tbOk; exact rfl; exact rfl; exact rfl; exact rfl; exact rfl; intro c hc; first | (have hb := BD.yes hc (by omega); subst hb; clear hc) | (have hb := BD.no hc (by omega); subst hb; clear hc) | skip)
        | (apply g_cmpS Tryz.tbOk; exact rfl; exact rfl; exact rfl; exact rfl; intro c hc)
        | (apply g_eqW Tryz.tbOk Tryz.elOk; exact rfl; exact rfl; exact rfl; exact rfl; exact rfl; exact rfl; intro c hc)
        | (apply g_conv Tryz.tbOk; exact rfl; exact rfl; exact rfl; exact rfl; exact rfl; (constructor <;> omega))
        | (apply x_set Tryz.tbOk Tryz.elOk Tryz.xtOk; exact rfl; exact rfl)
        | (apply x_grow Tryz.tbOk Tryz.elOk Tryz.xtOk; exact rfl; exact rfl)
        | (apply x_store Tryz.tbOk Tryz.elOk Tryz.xtOk; exact rfl)
        | (apply x_setN Tryz.tbOk Tryz.elOk Tryz.xtOk; exact rfl)
        | (apply g_ixs Tryz.tbOk; exact rfl; exact rfl; exact rfl; exact rfl; exact rfl; omega)
        | (apply g_ips Tryz.tbOk; exact rfl; exact rfl; exact rfl; exact rfl; exact rfl; exact rfl; exact rfl; (first | omega | (dsimp only; omega)))
        | (apply g_sls Tryz.tbOk; exact rfl; exact rfl; exact rfl; exact rfl; exact rfl; exact rfl; omega)
        | (apply g_ixg Tryz.tbOk; exact rfl; exact rfl; exact rfl; exact rfl; exact rfl; exact rfl; (first | omega | (dsimp only; omega))))
    | refine ops_skip rfl rfl ?_
    | refine ops_nil ?_
    | refine then_n ?_
    | refine f_condT rfl ?_
    | refine f_condF rfl ?_
    | refine f_block ?_
    | refine f_exit ?_
    | refine f_ret ?_
    | refine f_skip ?_
    | refine DrK.nil rfl ?_
    | refine d_skip rfl rfl ?_
    | refine d_skipN rfl ?_
    | (apply d_any; exact rfl; exact rfl; exact st_sum Tryz.tbOk rfl rfl rfl rfl (by constructor <;> omega))
    | (refine d_bd rfl rfl (st_cmp Tryz.tbOk rfl rfl rfl rfl) ?_; intro c hc; first | (have hb := BD.yes hc (by omega); subst hb; clear hc) | (have hb := BD.no hc (by omega); subst hb; clear hc) | skip)
    | (refine d_bd rfl rfl (st_cmpS Tryz.tbOk rfl rfl rfl) ?_; intro c hc)
    | (refine d_bd rfl rfl (st_eqW Tryz.tbOk Tryz.elOk rfl rfl rfl rfl rfl) ?_; intro c hc)
    | (apply d_set Tryz.tbOk Tryz.elOk Tryz.xtOk; exact rfl; exact rfl; exact rfl)
    | (apply d_ips Tryz.tbOk; exact rfl; exact rfl; exact rfl; exact rfl; exact rfl; exact rfl; exact rfl; exact rfl; (first | omega | (dsimp only; omega)))
    | (apply d_ixg Tryz.tbOk; exact rfl; exact rfl; exact rfl; exact rfl; exact rfl; exact rfl; exact rfl; (first | omega | (dsimp only; omega)))
    | (apply d_grow Tryz.tbOk Tryz.elOk Tryz.xtOk; exact rfl; exact rfl; exact rfl)
    | (apply d_store Tryz.tbOk Tryz.elOk Tryz.xtOk; exact rfl; exact rfl)
    | refine then_x ?_
    | refine then_r ?_
    | refine blk_n ?_
    | refine blk_eq rfl ?_
    | refine blk_ne rfl ?_
    | refine blk_r ?_
    | refine loop_x ?_
    | refine loop_r ?_
    | refine cut_x ?_
    | refine cut_r ?_
    | refine body_ret rfl rfl ?_
    | refine body_end rfl rfl ?_
    | exact (rfl : AEnd.ret _ = AEnd.ret _)
    | exact ⟨rfl, _, rfl⟩
    | exact ⟨rfl, HFin.refl _⟩
    | (rename BD _ _ => hbd; cases hbd)
    | (rename ¬ _ = _ => hq; exact absurd rfl hq))
  refine f_loopV (cbF tv gv) cbH (cbI T.length) (fun x => T.length - x.1) (0, none) ⟨Nat.zero_le _, rfl⟩ ⟨[0], rfl, (by ((repeat' (first | exact trivial | exact rfl | assumption | exact objv_enc (by assumption) rfl | exact objv_gr (by assumption) rfl | exact get_fn rfl (by assumption) rfl | exact InSl.getr (by assumption) rfl | exact InSl.le (by assumption) _ | exact AVs.le_mono (Nat.le_of_ble_eq_true rfl) _ (by assumption) | exact Nat.le_of_ble_eq_true rfl | exact Enc.Gr.le (by assumption) _ _ | exact gr_le (by assumption) _ | refine ⟨?_, ?_⟩)); (first | done | fail))), rfl, rfl, (by ((repeat' (first | exact trivial | exact rfl | assumption | exact objv_enc (by assumption) rfl | exact objv_gr (by assumption) rfl | exact get_fn rfl (by assumption) rfl | exact InSl.getr (by assumption) rfl | exact InSl.le (by assumption) _ | exact AVs.le_mono (Nat.le_of_ble_eq_true rfl) _ (by assumption) | exact Nat.le_of_ble_eq_true rfl | exact Enc.Gr.le (by assumption) _ _ | exact gr_le (by assumption) _ | refine ⟨?_, ?_⟩)); (first | done | fail)))⟩ ?_
  rintro ⟨i, st⟩ hI
  obtain hi : i ≤ T.length := by cases st <;> exact hI.1
  rcases Nat.lt_or_ge i T.length with hlt | hge
  · obtain ⟨b, hb⟩ : ∃ b, T[i]? = some b := ⟨_, List.getElem?_eq_getElem hlt⟩
    obtain ⟨tg, to, tc, rfl, hGT⟩ := hT.get hb
    have hmay := may_spec G (kyOf b) (UInt8.ofNat (97 + b.toNat % 9)) (by
      have : b.toNat % 9 < 9 := Nat.mod_lt _ (by decide)
      constructor <;> (rw [UInt8.le_iff_toNat_le]; simp; omega)) rfl (by simp only [kyOf]; omega)
    have hkey := keyf_spec G b
    repeat' (first
      | refine f_cut2 9 (fun y : Int × Int × List Cn × Int × List Int => [((0 : Nat), .gslc tg to T.length tc), (1, gv), (5, .ptr 0 0), (6, outV 2 y.2.2.2.2), (7, .int .i64 i), (8, .ptr 3 0), (9, .int .i64 y.1), (11, .int .i64 y.2.1)]) (fun y => [cW (.slc 1 0 y.2.2.1.length (.opn 0 0)) y.2.2.2.1, aW y.2.2.1, outD y.2.2.2.2, kO (kyOf b) true]) (fun y => (y.2.1 = 12 ∧ y.2.2.1 ≠ [] ∧ Inv (i + 1) y.2.2.1 y.2.2.2.1 y.2.2.2.2) ∨ (y.2.1 = 0 ∧ y.1 ∉ y.2.2.2.2 ∧ ∃ (p : Nat) (x : Cn), y.2.2.1[p]? = some x ∧ x.id = y.1 ∧ x.k = kyOf b ∧ Inv (i + 1) y.2.2.1 y.2.2.2.1 (y.2.2.2.2 ++ [y.1]))) ?_ ?_
      | refine f_seq ?_
      | (refine f_regionL Tryz.lv3 ?_; show opsWP _ _ _ _ _ _ _ _ _)
      | (refine f_drawL Tryz.lv3 Tryz.mixed ?_; show DrK _ _ _ _ _ _ _ _ _ _)
      | (refine ops_go rfl ?_; first
          | (apply g_sum Tryz.tbOk; exact rfl; exact rfl; exact rfl; exact rfl; exact rfl; (constructor <;> omega))
          | (apply g_rem Tryz.tbOk; exact rfl; exact rfl; exact rfl; exact rfl; (first | omega | (dsimp only; omega)))
          | (apply g_quo Tryz.tbOk; exact rfl; exact rfl; exact rfl; exact rfl; (first | omega | (dsimp only; omega)); (constructor <;> omega))
          | (apply g_cat; exact rfl; exact rfl; exact rfl; (first | omega | (simp; done) | (simp; omega)))
          | (apply g_cmp Tryz.tbOk; exact rfl; exact rfl; exact rfl; exact rfl; exact rfl; intro c hc; first | (have hb := BD.yes hc (by omega); subst hb; clear hc) | (have hb := BD.no hc (by omega); subst hb; clear hc) | skip)
          | (apply g_cmpS Tryz.tbOk; exact rfl; exact rfl; exact rfl; exact rfl; intro c hc)
          | (apply g_eqW Tryz.tbOk Tryz.elOk; exact rfl; exact rfl; exact rfl; exact rfl; exact rfl; exact rfl; intro c hc)
          | (apply g_conv Tryz.tbOk; exact rfl; exact rfl; exact rfl; exact rfl; exact rfl; (constructor <;> omega))
          | (apply x_set Tryz.tbOk Tryz.elOk Tryz.xtOk; exact rfl; exact rfl)
          | (apply x_grow Tryz.tbOk Tryz.elOk Tryz.xtOk; exact rfl; exact rfl)
          | (apply x_store Tryz.tbOk Tryz.elOk Tryz.xtOk; exact rfl)
          | (apply x_setN Tryz.tbOk Tryz.elOk Tryz.xtOk; exact rfl)
          | (apply g_ixs Tryz.tbOk; exact rfl; exact rfl; exact rfl; exact rfl; exact rfl; omega)
          | (apply g_ips Tryz.tbOk; exact rfl; exact rfl; exact rfl; exact rfl; exact rfl; exact rfl; exact rfl; (first | omega | (dsimp only; omega)))
          | (apply g_sls Tryz.tbOk; exact rfl; exact rfl; exact rfl; exact rfl; exact rfl; exact rfl; omega)
          | (apply g_ixg Tryz.tbOk; exact rfl; exact rfl; exact rfl; exact rfl; exact rfl; exact rfl; (first | omega | (dsimp only; omega))))
      | refine ops_skip rfl rfl ?_
      | refine ops_nil ?_
      | refine then_n ?_
      | refine f_condT rfl ?_
      | refine f_condF rfl ?_
      | refine f_block ?_
      | refine f_exit ?_
      | refine f_ret ?_
      | refine f_skip ?_
      | refine DrK.nil rfl ?_
      | refine d_skip rfl rfl ?_
      | refine d_skipN rfl ?_
      | (apply d_any; exact rfl; exact rfl; exact st_sum Tryz.tbOk rfl rfl rfl rfl (by constructor <;> omega))
      | (refine d_bd rfl rfl (st_cmp Tryz.tbOk rfl rfl rfl rfl) ?_; intro c hc; first | (have hb := BD.yes hc (by omega); subst hb; clear hc) | (have hb := BD.no hc (by omega); subst hb; clear hc) | skip)
      | (refine d_bd rfl rfl (st_cmpS Tryz.tbOk rfl rfl rfl) ?_; intro c hc)
      | (refine d_bd rfl rfl (st_eqW Tryz.tbOk Tryz.elOk rfl rfl rfl rfl rfl) ?_; intro c hc)
      | (apply d_set Tryz.tbOk Tryz.elOk Tryz.xtOk; exact rfl; exact rfl; exact rfl)
      | (apply d_ips Tryz.tbOk; exact rfl; exact rfl; exact rfl; exact rfl; exact rfl; exact rfl; exact rfl; exact rfl; (first | omega | (dsimp only; omega)))
      | (apply d_ixg Tryz.tbOk; exact rfl; exact rfl; exact rfl; exact rfl; exact rfl; exact rfl; exact rfl; (first | omega | (dsimp only; omega)))
      | (apply d_grow Tryz.tbOk Tryz.elOk Tryz.xtOk; exact rfl; exact rfl; exact rfl)
      | (apply d_store Tryz.tbOk Tryz.elOk Tryz.xtOk; exact rfl; exact rfl)
      | refine then_x ?_
      | refine then_r ?_
      | refine blk_n ?_
      | refine blk_eq rfl ?_
      | refine blk_ne rfl ?_
      | refine blk_r ?_
      | refine loop_x ?_
      | refine loop_r ?_
      | refine cut_x ?_
      | refine cut_r ?_
      | refine body_ret rfl rfl ?_
      | refine body_end rfl rfl ?_
      | exact (rfl : AEnd.ret _ = AEnd.ret _)
      | exact ⟨rfl, _, rfl⟩
      | exact ⟨rfl, HFin.refl _⟩
      | (rename BD _ _ => hbd; cases hbd)
      | (rename ¬ _ = _ => hq; exact absurd rfl hq))
    · refine ⟨?_⟩
      cases st with
      | none =>
        obtain ⟨_, rfl⟩ := hI
        repeat' (first
          | refine f_seq ?_
          | (refine f_regionL Tryz.lv3 ?_; show opsWP _ _ _ _ _ _ _ _ _)
          | (refine f_drawL Tryz.lv3 Tryz.mixed ?_; show DrK _ _ _ _ _ _ _ _ _ _)
          | (refine ops_go rfl ?_; first
              | (apply g_loadG Tryz.tbOk; exact rfl; exact rfl; exact rfl; exact (hGT.load_cell (j := 0) hb rfl (by dsimp only; omega) rfl))
              | (apply g_callP; exact rfl; exact rfl; exact Tryz.fnOk rfl; exact hkey)
              | (apply g_ret (h' := [cW (.slc 2 0 1 (.opn 0 0)) 1, kO (kyOf b) true, aW [nCn 0 (kyOf b)]]); exact rfl; exact rfl; exact Tryz.fnOk rfl; exact RetTo.frameX (take0_spec G ((0 : Nat) : Int) (kyOf b) hmay (by decide)) [0] rfl (by ((repeat' (first | exact trivial | exact fits_enc (by assumption) (fun _ => rfl) | exact fits_enc (by assumption) (fun h => h) | exact ⟨_, rfl, fun _ => rfl⟩ | exact ⟨_, rfl, fun h => h⟩ | refine ⟨?_, ?_⟩)); (first | done | fail))) (by ((repeat' (first | exact trivial | assumption | exact AVs.le_mono (Nat.le_of_ble_eq_true rfl) _ (by assumption) | exact Nat.le_of_ble_eq_true rfl | exact Enc.Gr.le (by assumption) _ _ | exact gr_le (by assumption) _ | exact InSl.le (by assumption) _ | refine ⟨?_, ?_⟩)); (first | done | fail))) (by ((repeat' (first | exact trivial | assumption | exact AVs.le_mono (Nat.le_of_ble_eq_true rfl) _ (by assumption) | exact Nat.le_of_ble_eq_true rfl | exact Enc.Gr.le (by assumption) _ _ | exact gr_le (by assumption) _ | exact InSl.le (by assumption) _ | refine ⟨?_, ?_⟩)); (first | done | fail))) rfl rfl (by show setNth _ 0 (AObj.cells _ _ _ _) ++ [AObj.cells (AVs.ren _ (cnE.of [nCn 0 _])) _ _ _] = _; rw [cnGr.ren]; rfl))
              | (apply g_sum Tryz.tbOk; exact rfl; exact rfl; exact rfl; exact rfl; exact rfl; (constructor <;> omega))
              | (apply g_rem Tryz.tbOk; exact rfl; exact rfl; exact rfl; exact rfl; (first | omega | (dsimp only; omega)))
              | (apply g_quo Tryz.tbOk; exact rfl; exact rfl; exact rfl; exact rfl; (first | omega | (dsimp only; omega)); (constructor <;> omega))
              | (apply g_cat; exact rfl; exact rfl; exact rfl; (first | omega | (simp; done) | (simp; omega)))
              | (apply g_cmp Tryz.tbOk; exact rfl; exact rfl; exact rfl; exact rfl; exact rfl; intro c hc; first | (have hb := BD.yes hc (by omega); subst hb; clear hc) | (have hb := BD.no hc (by omega); subst hb; clear hc) | skip)
              | (apply g_cmpS Tryz.tbOk; exact rfl; exact rfl; exact rfl; exact rfl; intro c hc)
              | (apply g_eqW Tryz.tbOk Tryz.elOk; exact rfl; exact rfl; exact rfl; exact rfl; exact rfl; exact rfl; intro c hc)
              | (apply g_conv Tryz.tbOk; exact rfl; exact rfl; exact rfl; exact rfl; exact rfl; (constructor <;> omega))
              | (apply x_set Tryz.tbOk Tryz.elOk Tryz.xtOk; exact rfl; exact rfl)
              | (apply x_grow Tryz.tbOk Tryz.elOk Tryz.xtOk; exact rfl; exact rfl)
              | (apply x_store Tryz.tbOk Tryz.elOk Tryz.xtOk; exact rfl)
              | (apply x_setN Tryz.tbOk Tryz.elOk Tryz.xtOk; exact rfl)
              | (apply g_ixs Tryz.tbOk; exact rfl; exact rfl; exact rfl; exact rfl; exact rfl; omega)
              | (apply g_ips Tryz.tbOk; exact rfl; exact rfl; exact rfl; exact rfl; exact rfl; exact rfl; exact rfl; (first | omega | (dsimp only; omega)))
              | (apply g_sls Tryz.tbOk; exact rfl; exact rfl; exact rfl; exact rfl; exact rfl; exact rfl; omega)
              | (apply g_ixg Tryz.tbOk; exact rfl; exact rfl; exact rfl; exact rfl; exact rfl; exact rfl; (first | omega | (dsimp only; omega))))
          | refine ops_skip rfl rfl ?_
          | refine ops_nil ?_
          | refine then_n ?_
          | refine f_condT rfl ?_
          | refine f_condF rfl ?_
          | refine f_block ?_
          | refine f_exit ?_
          | refine f_ret ?_
          | refine f_skip ?_
          | refine DrK.nil rfl ?_
          | refine d_skip rfl rfl ?_
          | refine d_skipN rfl ?_
          | (apply d_callP; exact rfl; exact rfl; exact rfl; exact Tryz.fnOk rfl; exact hkey)
          | (apply d_any; exact rfl; exact rfl; exact st_sum Tryz.tbOk rfl rfl rfl rfl (by constructor <;> omega))
          | (refine d_bd rfl rfl (st_cmp Tryz.tbOk rfl rfl rfl rfl) ?_; intro c hc; first | (have hb := BD.yes hc (by omega); subst hb; clear hc) | (have hb := BD.no hc (by omega); subst hb; clear hc) | skip)
          | (refine d_bd rfl rfl (st_cmpS Tryz.tbOk rfl rfl rfl) ?_; intro c hc)
          | (refine d_bd rfl rfl (st_eqW Tryz.tbOk Tryz.elOk rfl rfl rfl rfl rfl) ?_; intro c hc)
          | (apply d_set Tryz.tbOk Tryz.elOk Tryz.xtOk; exact rfl; exact rfl; exact rfl)
          | (apply d_ips Tryz.tbOk; exact rfl; exact rfl; exact rfl; exact rfl; exact rfl; exact rfl; exact rfl; exact rfl; (first | omega | (dsimp only; omega)))
          | (apply d_ixg Tryz.tbOk; exact rfl; exact rfl; exact rfl; exact rfl; exact rfl; exact rfl; exact rfl; (first | omega | (dsimp only; omega)))
          | (apply d_grow Tryz.tbOk Tryz.elOk Tryz.xtOk; exact rfl; exact rfl; exact rfl)
          | (apply d_store Tryz.tbOk Tryz.elOk Tryz.xtOk; exact rfl; exact rfl)
          | refine then_x ?_
          | refine then_r ?_
          | refine blk_n ?_
          | refine blk_eq rfl ?_
          | refine blk_ne rfl ?_
          | refine blk_r ?_
          | refine loop_x ?_
          | refine loop_r ?_
          | refine cut_x ?_
          | refine cut_r ?_
          | refine body_ret rfl rfl ?_
          | refine body_end rfl rfl ?_
          | exact (rfl : AEnd.ret _ = AEnd.ret _)
          | exact ⟨rfl, _, rfl⟩
          | exact ⟨rfl, HFin.refl _⟩
          | (rename BD _ _ => hbd; cases hbd)
          | (rename ¬ _ = _ => hq; exact absurd rfl hq))
        exact cut_n (0, 0, [nCn 0 (kyOf b)], 1, []) (.inr ⟨rfl, by simp, 0, nCn 0 (kyOf b), rfl, rfl, rfl, inv_first _⟩) ⟨[0, 2, 3, 1], rfl, (by ((repeat' (first | exact trivial | exact rfl | assumption | exact objv_enc (by assumption) rfl | exact objv_gr (by assumption) rfl | exact get_fn rfl (by assumption) rfl | exact InSl.getr (by assumption) rfl | exact InSl.le (by assumption) _ | exact AVs.le_mono (Nat.le_of_ble_eq_true rfl) _ (by assumption) | exact Nat.le_of_ble_eq_true rfl | exact Enc.Gr.le (by assumption) _ _ | exact gr_le (by assumption) _ | refine ⟨?_, ?_⟩)); (first | done | fail))), rfl, rfl, (by ((repeat' (first | exact trivial | exact rfl | assumption | exact objv_enc (by assumption) rfl | exact objv_gr (by assumption) rfl | exact get_fn rfl (by assumption) rfl | exact InSl.getr (by assumption) rfl | exact InSl.le (by assumption) _ | exact AVs.le_mono (Nat.le_of_ble_eq_true rfl) _ (by assumption) | exact Nat.le_of_ble_eq_true rfl | exact Enc.Gr.le (by assumption) _ _ | exact gr_le (by assumption) _ | refine ⟨?_, ?_⟩)); (first | done | fail)))⟩
      | some st =>
        obtain ⟨l, next, mine⟩ := st
        obtain ⟨_, hinv, hne⟩ := hI
        have hlen := hinv.len
        have hnx := hinv.nx
        repeat' (first
          | refine f_seq ?_
          | (refine f_regionL Tryz.lv3 ?_; show opsWP _ _ _ _ _ _ _ _ _)
          | (refine f_drawL Tryz.lv3 Tryz.mixed ?_; show DrK _ _ _ _ _ _ _ _ _ _)
          | (refine ops_go rfl ?_; first
              | (apply g_loadG Tryz.tbOk; exact rfl; exact rfl; exact rfl; exact (hGT.load_cell (j := 0) hb rfl (by dsimp only; omega) rfl))
              | (apply g_callP; exact rfl; exact rfl; exact Tryz.fnOk rfl; exact hkey)
              | (apply g_callX; exact rfl; exact rfl; exact Tryz.fnOk rfl; exact take_fr G l next (i : Int) (kyOf b) hmay (by omega) (by omega) hinv.giv (by omega) (outD mine) (kO (kyOf b) true))
              | (apply g_sum Tryz.tbOk; exact rfl; exact rfl; exact rfl; exact rfl; exact rfl; (constructor <;> omega))
              | (apply g_rem Tryz.tbOk; exact rfl; exact rfl; exact rfl; exact rfl; (first | omega | (dsimp only; omega)))
              | (apply g_quo Tryz.tbOk; exact rfl; exact rfl; exact rfl; exact rfl; (first | omega | (dsimp only; omega)); (constructor <;> omega))
              | (apply g_cat; exact rfl; exact rfl; exact rfl; (first | omega | (simp; done) | (simp; omega)))
              | (apply g_cmp Tryz.tbOk; exact rfl; exact rfl; exact rfl; exact rfl; exact rfl; intro c hc; first | (have hb := BD.yes hc (by omega); subst hb; clear hc) | (have hb := BD.no hc (by omega); subst hb; clear hc) | skip)
              | (apply g_cmpS Tryz.tbOk; exact rfl; exact rfl; exact rfl; exact rfl; intro c hc)
              | (apply g_eqW Tryz.tbOk Tryz.elOk; exact rfl; exact rfl; exact rfl; exact rfl; exact rfl; exact rfl; intro c hc)
              | (apply g_conv Tryz.tbOk; exact rfl; exact rfl; exact rfl; exact rfl; exact rfl; (constructor <;> omega))
              | (apply x_set Tryz.tbOk Tryz.elOk Tryz.xtOk; exact rfl; exact rfl)
              | (apply x_grow Tryz.tbOk Tryz.elOk Tryz.xtOk; exact rfl; exact rfl)
              | (apply x_store Tryz.tbOk Tryz.elOk Tryz.xtOk; exact rfl)
              | (apply x_setN Tryz.tbOk Tryz.elOk Tryz.xtOk; exact rfl)
              | (apply g_ixs Tryz.tbOk; exact rfl; exact rfl; exact rfl; exact rfl; exact rfl; omega)
              | (apply g_ips Tryz.tbOk; exact rfl; exact rfl; exact rfl; exact rfl; exact rfl; exact rfl; exact rfl; (first | omega | (dsimp only; omega)))
              | (apply g_sls Tryz.tbOk; exact rfl; exact rfl; exact rfl; exact rfl; exact rfl; exact rfl; omega)
              | (apply g_ixg Tryz.tbOk; exact rfl; exact rfl; exact rfl; exact rfl; exact rfl; exact rfl; (first | omega | (dsimp only; omega))))
          | refine ops_skip rfl rfl ?_
          | refine ops_nil ?_
          | refine then_n ?_
          | refine f_condT rfl ?_
          | refine f_condF rfl ?_
          | refine f_block ?_
          | refine f_exit ?_
          | refine f_ret ?_
          | refine f_skip ?_
          | refine DrK.nil rfl ?_
          | refine d_skip rfl rfl ?_
          | refine d_skipN rfl ?_
          | (apply d_callP; exact rfl; exact rfl; exact rfl; exact Tryz.fnOk rfl; exact hkey)
          | (apply d_any; exact rfl; exact rfl; exact st_sum Tryz.tbOk rfl rfl rfl rfl (by constructor <;> omega))
          | (refine d_bd rfl rfl (st_cmp Tryz.tbOk rfl rfl rfl rfl) ?_; intro c hc; first | (have hb := BD.yes hc (by omega); subst hb; clear hc) | (have hb := BD.no hc (by omega); subst hb; clear hc) | skip)
          | (refine d_bd rfl rfl (st_cmpS Tryz.tbOk rfl rfl rfl) ?_; intro c hc)
          | (refine d_bd rfl rfl (st_eqW Tryz.tbOk Tryz.elOk rfl rfl rfl rfl rfl) ?_; intro c hc)
          | (apply d_set Tryz.tbOk Tryz.elOk Tryz.xtOk; exact rfl; exact rfl; exact rfl)
          | (apply d_ips Tryz.tbOk; exact rfl; exact rfl; exact rfl; exact rfl; exact rfl; exact rfl; exact rfl; exact rfl; (first | omega | (dsimp only; omega)))
          | (apply d_ixg Tryz.tbOk; exact rfl; exact rfl; exact rfl; exact rfl; exact rfl; exact rfl; exact rfl; (first | omega | (dsimp only; omega)))
          | (apply d_grow Tryz.tbOk Tryz.elOk Tryz.xtOk; exact rfl; exact rfl; exact rfl)
          | (apply d_store Tryz.tbOk Tryz.elOk Tryz.xtOk; exact rfl; exact rfl)
          | refine then_x ?_
          | refine then_r ?_
          | refine blk_n ?_
          | refine blk_eq rfl ?_
          | refine blk_ne rfl ?_
          | refine blk_r ?_
          | refine loop_x ?_
          | refine loop_r ?_
          | refine cut_x ?_
          | refine cut_r ?_
          | refine body_ret rfl rfl ?_
          | refine body_end rfl rfl ?_
          | exact (rfl : AEnd.ret _ = AEnd.ret _)
          | exact ⟨rfl, _, rfl⟩
          | exact ⟨rfl, HFin.refl _⟩
          | (rename BD _ _ => hbd; cases hbd)
          | (rename ¬ _ = _ => hq; exact absurd rfl hq))
        rintro e h' ⟨id, fresh, err, l', next', rfl, hp, hsh⟩
        refine ⟨_, rfl, ?_⟩
        have hI9 := hinv.take hp
        have hI9 : (err = 12 ∧ l' ≠ [] ∧ Inv (i + 1) l' next' mine) ∨ (err = 0 ∧ id ∉ mine ∧ ∃ (p : Nat) (x : Cn), l'[p]? = some x ∧ x.id = id ∧ x.k = kyOf b ∧ Inv (i + 1) l' next' (mine ++ [id])) := by
          rcases hI9 with ⟨h1, h2, rfl, h4⟩ | h
          · exact .inl ⟨h1, h2, h4⟩
          · exact .inr h
        rcases hsh with rfl | rfl
        · repeat' (first
            | refine f_seq ?_
            | (refine f_regionL Tryz.lv3 ?_; show opsWP _ _ _ _ _ _ _ _ _)
            | (refine f_drawL Tryz.lv3 Tryz.mixed ?_; show DrK _ _ _ _ _ _ _ _ _ _)
            | (refine ops_go rfl ?_; first
                | (apply g_sum Tryz.tbOk; exact rfl; exact rfl; exact rfl; exact rfl; exact rfl; (constructor <;> omega))
                | (apply g_rem Tryz.tbOk; exact rfl; exact rfl; exact rfl; exact rfl; (first | omega | (dsimp only; omega)))
                | (apply g_quo Tryz.tbOk; exact rfl; exact rfl; exact rfl; exact rfl; (first | omega | (dsimp only; omega)); (constructor <;> omega))
                | (apply g_cat; exact rfl; exact rfl; exact rfl; (first | omega | (simp; done) | (simp; omega)))
                | (apply g_cmp Tryz.tbOk; exact rfl; exact rfl; exact rfl; exact rfl; exact rfl; intro c hc; first | (have hb := BD.yes hc (by omega); subst hb; clear hc) | (have hb := BD.no hc (by omega); subst hb; clear hc) | skip)
                | (apply g_cmpS Tryz.tbOk; exact rfl; exact rfl; exact rfl; exact rfl; intro c hc)
                | (apply g_eqW Tryz.tbOk Tryz.elOk; exact rfl; exact rfl; exact rfl; exact rfl; exact rfl; exact rfl; intro c hc)
                | (apply g_conv Tryz.tbOk; exact rfl; exact rfl; exact rfl; exact rfl; exact rfl; (constructor <;> omega))
                | (apply x_set Tryz.tbOk Tryz.elOk Tryz.xtOk; exact rfl; exact rfl)
                | (apply x_grow Tryz.tbOk Tryz.elOk Tryz.xtOk; exact rfl; exact rfl)
                | (apply x_store Tryz.tbOk Tryz.elOk Tryz.xtOk; exact rfl)
                | (apply x_setN Tryz.tbOk Tryz.elOk Tryz.xtOk; exact rfl)
                | (apply g_ixs Tryz.tbOk; exact rfl; exact rfl; exact rfl; exact rfl; exact rfl; omega)
                | (apply g_ips Tryz.tbOk; exact rfl; exact rfl; exact rfl; exact rfl; exact rfl; exact rfl; exact rfl; (first | omega | (dsimp only; omega)))
                | (apply g_sls Tryz.tbOk; exact rfl; exact rfl; exact rfl; exact rfl; exact rfl; exact rfl; omega)
                | (apply g_ixg Tryz.tbOk; exact rfl; exact rfl; exact rfl; exact rfl; exact rfl; exact rfl; (first | omega | (dsimp only; omega))))
            | refine ops_skip rfl rfl ?_
            | refine ops_nil ?_
            | refine then_n ?_
            | refine f_condT rfl ?_
            | refine f_condF rfl ?_
            | refine f_block ?_
            | refine f_exit ?_
            | refine f_ret ?_
            | refine f_skip ?_
            | refine DrK.nil rfl ?_
            | refine d_skip rfl rfl ?_
            | refine d_skipN rfl ?_
            | (apply d_any; exact rfl; exact rfl; exact st_sum Tryz.tbOk rfl rfl rfl rfl (by constructor <;> omega))
            | (refine d_bd rfl rfl (st_cmp Tryz.tbOk rfl rfl rfl rfl) ?_; intro c hc; first | (have hb := BD.yes hc (by omega); subst hb; clear hc) | (have hb := BD.no hc (by omega); subst hb; clear hc) | skip)
            | (refine d_bd rfl rfl (st_cmpS Tryz.tbOk rfl rfl rfl) ?_; intro c hc)
            | (refine d_bd rfl rfl (st_eqW Tryz.tbOk Tryz.elOk rfl rfl rfl rfl rfl) ?_; intro c hc)
            | (apply d_set Tryz.tbOk Tryz.elOk Tryz.xtOk; exact rfl; exact rfl; exact rfl)
            | (apply d_ips Tryz.tbOk; exact rfl; exact rfl; exact rfl; exact rfl; exact rfl; exact rfl; exact rfl; exact rfl; (first | omega | (dsimp only; omega)))
            | (apply d_ixg Tryz.tbOk; exact rfl; exact rfl; exact rfl; exact rfl; exact rfl; exact rfl; exact rfl; (first | omega | (dsimp only; omega)))
            | (apply d_grow Tryz.tbOk Tryz.elOk Tryz.xtOk; exact rfl; exact rfl; exact rfl)
            | (apply d_store Tryz.tbOk Tryz.elOk Tryz.xtOk; exact rfl; exact rfl)
            | refine then_x ?_
            | refine then_r ?_
            | refine blk_n ?_
            | refine blk_eq rfl ?_
            | refine blk_ne rfl ?_
            | refine blk_r ?_
            | refine loop_x ?_
            | refine loop_r ?_
            | refine cut_x ?_
            | refine cut_r ?_
            | refine body_ret rfl rfl ?_
            | refine body_end rfl rfl ?_
            | exact (rfl : AEnd.ret _ = AEnd.ret _)
            | exact ⟨rfl, _, rfl⟩
            | exact ⟨rfl, HFin.refl _⟩
            | (rename BD _ _ => hbd; cases hbd)
            | (rename ¬ _ = _ => hq; exact absurd rfl hq))
          cases mine <;> exact cut_n (id, err, l', next', _) hI9 ⟨[0, 1, 2, 3], rfl, (by ((repeat' (first | exact trivial | exact rfl | assumption | exact objv_enc (by assumption) rfl | exact objv_gr (by assumption) rfl | exact get_fn rfl (by assumption) rfl | exact InSl.getr (by assumption) rfl | exact InSl.le (by assumption) _ | exact AVs.le_mono (Nat.le_of_ble_eq_true rfl) _ (by assumption) | exact Nat.le_of_ble_eq_true rfl | exact Enc.Gr.le (by assumption) _ _ | exact gr_le (by assumption) _ | refine ⟨?_, ?_⟩)); (first | done | fail))), rfl, rfl, (by ((repeat' (first | exact trivial | exact rfl | assumption | exact objv_enc (by assumption) rfl | exact objv_gr (by assumption) rfl | exact get_fn rfl (by assumption) rfl | exact InSl.getr (by assumption) rfl | exact InSl.le (by assumption) _ | exact AVs.le_mono (Nat.le_of_ble_eq_true rfl) _ (by assumption) | exact Nat.le_of_ble_eq_true rfl | exact Enc.Gr.le (by assumption) _ _ | exact gr_le (by assumption) _ | refine ⟨?_, ?_⟩)); (first | done | fail)))⟩
        · repeat' (first
            | refine f_seq ?_
            | (refine f_regionL Tryz.lv3 ?_; show opsWP _ _ _ _ _ _ _ _ _)
            | (refine f_drawL Tryz.lv3 Tryz.mixed ?_; show DrK _ _ _ _ _ _ _ _ _ _)
            | (refine ops_go rfl ?_; first
                | (apply g_sum Tryz.tbOk; exact rfl; exact rfl; exact rfl; exact rfl; exact rfl; (constructor <;> omega))
                | (apply g_rem Tryz.tbOk; exact rfl; exact rfl; exact rfl; exact rfl; (first | omega | (dsimp only; omega)))
                | (apply g_quo Tryz.tbOk; exact rfl; exact rfl; exact rfl; exact rfl; (first | omega | (dsimp only; omega)); (constructor <;> omega))
                | (apply g_cat; exact rfl; exact rfl; exact rfl; (first | omega | (simp; done) | (simp; omega)))
                | (apply g_cmp Tryz.tbOk; exact rfl; exact rfl; exact rfl; exact rfl; exact rfl; intro c hc; first | (have hb := BD.yes hc (by omega); subst hb; clear hc) | (have hb := BD.no hc (by omega); subst hb; clear hc) | skip)
                | (apply g_cmpS Tryz.tbOk; exact rfl; exact rfl; exact rfl; exact rfl; intro c hc)
                | (apply g_eqW Tryz.tbOk Tryz.elOk; exact rfl; exact rfl; exact rfl; exact rfl; exact rfl; exact rfl; intro c hc)
                | (apply g_conv Tryz.tbOk; exact rfl; exact rfl; exact rfl; exact rfl; exact rfl; (constructor <;> omega))
                | (apply x_set Tryz.tbOk Tryz.elOk Tryz.xtOk; exact rfl; exact rfl)
                | (apply x_grow Tryz.tbOk Tryz.elOk Tryz.xtOk; exact rfl; exact rfl)
                | (apply x_store Tryz.tbOk Tryz.elOk Tryz.xtOk; exact rfl)
                | (apply x_setN Tryz.tbOk Tryz.elOk Tryz.xtOk; exact rfl)
                | (apply g_ixs Tryz.tbOk; exact rfl; exact rfl; exact rfl; exact rfl; exact rfl; omega)
                | (apply g_ips Tryz.tbOk; exact rfl; exact rfl; exact rfl; exact rfl; exact rfl; exact rfl; exact rfl; (first | omega | (dsimp only; omega)))
                | (apply g_sls Tryz.tbOk; exact rfl; exact rfl; exact rfl; exact rfl; exact rfl; exact rfl; omega)
                | (apply g_ixg Tryz.tbOk; exact rfl; exact rfl; exact rfl; exact rfl; exact rfl; exact rfl; (first | omega | (dsimp only; omega))))
            | refine ops_skip rfl rfl ?_
            | refine ops_nil ?_
            | refine then_n ?_
            | refine f_condT rfl ?_
            | refine f_condF rfl ?_
            | refine f_block ?_
            | refine f_exit ?_
            | refine f_ret ?_
            | refine f_skip ?_
            | refine DrK.nil rfl ?_
            | refine d_skip rfl rfl ?_
            | refine d_skipN rfl ?_
            | (apply d_any; exact rfl; exact rfl; exact st_sum Tryz.tbOk rfl rfl rfl rfl (by constructor <;> omega))
            | (refine d_bd rfl rfl (st_cmp Tryz.tbOk rfl rfl rfl rfl) ?_; intro c hc; first | (have hb := BD.yes hc (by omega); subst hb; clear hc) | (have hb := BD.no hc (by omega); subst hb; clear hc) | skip)
            | (refine d_bd rfl rfl (st_cmpS Tryz.tbOk rfl rfl rfl) ?_; intro c hc)
            | (refine d_bd rfl rfl (st_eqW Tryz.tbOk Tryz.elOk rfl rfl rfl rfl rfl) ?_; intro c hc)
            | (apply d_set Tryz.tbOk Tryz.elOk Tryz.xtOk; exact rfl; exact rfl; exact rfl)
            | (apply d_ips Tryz.tbOk; exact rfl; exact rfl; exact rfl; exact rfl; exact rfl; exact rfl; exact rfl; exact rfl; (first | omega | (dsimp only; omega)))
            | (apply d_ixg Tryz.tbOk; exact rfl; exact rfl; exact rfl; exact rfl; exact rfl; exact rfl; exact rfl; (first | omega | (dsimp only; omega)))
            | (apply d_grow Tryz.tbOk Tryz.elOk Tryz.xtOk; exact rfl; exact rfl; exact rfl)
            | (apply d_store Tryz.tbOk Tryz.elOk Tryz.xtOk; exact rfl; exact rfl)
            | refine then_x ?_
            | refine then_r ?_
            | refine blk_n ?_
            | refine blk_eq rfl ?_
            | refine blk_ne rfl ?_
            | refine blk_r ?_
            | refine loop_x ?_
            | refine loop_r ?_
            | refine cut_x ?_
            | refine cut_r ?_
            | refine body_ret rfl rfl ?_
            | refine body_end rfl rfl ?_
            | exact (rfl : AEnd.ret _ = AEnd.ret _)
            | exact ⟨rfl, _, rfl⟩
            | exact ⟨rfl, HFin.refl _⟩
            | (rename BD _ _ => hbd; cases hbd)
            | (rename ¬ _ = _ => hq; exact absurd rfl hq))
          cases mine <;> exact cut_n (id, err, l', next', _) hI9 ⟨[0, 4, 2, 3], rfl, (by ((repeat' (first | exact trivial | exact rfl | assumption | exact objv_enc (by assumption) rfl | exact objv_gr (by assumption) rfl | exact get_fn rfl (by assumption) rfl | exact InSl.getr (by assumption) rfl | exact InSl.le (by assumption) _ | exact AVs.le_mono (Nat.le_of_ble_eq_true rfl) _ (by assumption) | exact Nat.le_of_ble_eq_true rfl | exact Enc.Gr.le (by assumption) _ _ | exact gr_le (by assumption) _ | refine ⟨?_, ?_⟩)); (first | done | fail))), rfl, rfl, (by ((repeat' (first | exact trivial | exact rfl | assumption | exact objv_enc (by assumption) rfl | exact objv_gr (by assumption) rfl | exact get_fn rfl (by assumption) rfl | exact InSl.getr (by assumption) rfl | exact InSl.le (by assumption) _ | exact AVs.le_mono (Nat.le_of_ble_eq_true rfl) _ (by assumption) | exact Nat.le_of_ble_eq_true rfl | exact Enc.Gr.le (by assumption) _ _ | exact gr_le (by assumption) _ | refine ⟨?_, ?_⟩)); (first | done | fail)))⟩
    · rintro ⟨id, err, l, next, mine⟩ hy
      dsimp only at hy ⊢
      repeat' (first
        | refine f_cutI 46 (fun y : List Cn × Int × List Int => [((0 : Nat), .gslc tg to T.length tc), (1, gv), (5, .ptr 0 0), (6, outV 2 y.2.2), (7, .int .i64 i), (8, .ptr 3 0)]) (fun y => [cW (.slc 1 0 y.1.length (.opn 0 0)) y.2.1, aW y.1, outD y.2.2, kO (kyOf b) true]) (fun y => y.1 ≠ [] ∧ Inv (i + 1) y.1 y.2.1 y.2.2) ?_ ?_
        | refine f_seq ?_
        | (refine f_regionL Tryz.lv3 ?_; show opsWP _ _ _ _ _ _ _ _ _)
        | (refine f_drawL Tryz.lv3 Tryz.mixed ?_; show DrK _ _ _ _ _ _ _ _ _ _)
        | (refine ops_go rfl ?_; first
            | (apply g_sum Tryz.tbOk; exact rfl; exact rfl; exact rfl; exact rfl; exact rfl; (constructor <;> omega))
            | (apply g_rem Tryz.tbOk; exact rfl; exact rfl; exact rfl; exact rfl; (first | omega | (dsimp only; omega)))
            | (apply g_quo Tryz.tbOk; exact rfl; exact rfl; exact rfl; exact rfl; (first | omega | (dsimp only; omega)); (constructor <;> omega))
            | (apply g_cat; exact rfl; exact rfl; exact rfl; (first | omega | (simp; done) | (simp; omega)))
            | (apply g_cmp Tryz.tbOk; exact rfl; exact rfl; exact rfl; exact rfl; exact rfl; intro c hc; first | (have hb := BD.yes hc (by omega); subst hb; clear hc) | (have hb := BD.no hc (by omega); subst hb; clear hc) | skip)
            | (apply g_cmpS Tryz.tbOk; exact rfl; exact rfl; exact rfl; exact rfl; intro c hc)
            | (apply g_eqW Tryz.tbOk Tryz.elOk; exact rfl; exact rfl; exact rfl; exact rfl; exact rfl; exact rfl; intro c hc)
            | (apply g_conv Tryz.tbOk; exact rfl; exact rfl; exact rfl; exact rfl; exact rfl; (constructor <;> omega))
            | (apply x_set Tryz.tbOk Tryz.elOk Tryz.xtOk; exact rfl; exact rfl)
            | (apply x_grow Tryz.tbOk Tryz.elOk Tryz.xtOk; exact rfl; exact rfl)
            | (apply x_store Tryz.tbOk Tryz.elOk Tryz.xtOk; exact rfl)
            | (apply x_setN Tryz.tbOk Tryz.elOk Tryz.xtOk; exact rfl)
            | (apply g_ixs Tryz.tbOk; exact rfl; exact rfl; exact rfl; exact rfl; exact rfl; omega)
            | (apply g_ips Tryz.tbOk; exact rfl; exact rfl; exact rfl; exact rfl; exact rfl; exact rfl; exact rfl; (first | omega | (dsimp only; omega)))
            | (apply g_sls Tryz.tbOk; exact rfl; exact rfl; exact rfl; exact rfl; exact rfl; exact rfl; omega)
            | (apply g_ixg Tryz.tbOk; exact rfl; exact rfl; exact rfl; exact rfl; exact rfl; exact rfl; (first | omega | (dsimp only; omega))))
        | refine ops_skip rfl rfl ?_
        | refine ops_nil ?_
        | refine then_n ?_
        | refine f_condT rfl ?_
        | refine f_condF rfl ?_
        | refine f_block ?_
        | refine f_exit ?_
        | refine f_ret ?_
        | refine f_skip ?_
        | refine DrK.nil rfl ?_
        | refine d_skip rfl rfl ?_
        | refine d_skipN rfl ?_
        | (apply d_any; exact rfl; exact rfl; exact st_sum Tryz.tbOk rfl rfl rfl rfl (by constructor <;> omega))
        | (refine d_bd rfl rfl (st_cmp Tryz.tbOk rfl rfl rfl rfl) ?_; intro c hc; first | (have hb := BD.yes hc (by omega); subst hb; clear hc) | (have hb := BD.no hc (by omega); subst hb; clear hc) | skip)
        | (refine d_bd rfl rfl (st_cmpS Tryz.tbOk rfl rfl rfl) ?_; intro c hc)
        | (refine d_bd rfl rfl (st_eqW Tryz.tbOk Tryz.elOk rfl rfl rfl rfl rfl) ?_; intro c hc)
        | (apply d_set Tryz.tbOk Tryz.elOk Tryz.xtOk; exact rfl; exact rfl; exact rfl)
        | (apply d_ips Tryz.tbOk; exact rfl; exact rfl; exact rfl; exact rfl; exact rfl; exact rfl; exact rfl; exact rfl; (first | omega | (dsimp only; omega)))
        | (apply d_ixg Tryz.tbOk; exact rfl; exact rfl; exact rfl; exact rfl; exact rfl; exact rfl; exact rfl; (first | omega | (dsimp only; omega)))
        | (apply d_grow Tryz.tbOk Tryz.elOk Tryz.xtOk; exact rfl; exact rfl; exact rfl)
        | (apply d_store Tryz.tbOk Tryz.elOk Tryz.xtOk; exact rfl; exact rfl)
        | refine then_x ?_
        | refine then_r ?_
        | refine blk_n ?_
        | refine blk_eq rfl ?_
        | refine blk_ne rfl ?_
        | refine blk_r ?_
        | refine loop_x ?_
        | refine loop_r ?_
        | refine cut_x ?_
        | refine cut_r ?_
        | refine body_ret rfl rfl ?_
        | refine body_end rfl rfl ?_
        | exact (rfl : AEnd.ret _ = AEnd.ret _)
        | exact ⟨rfl, _, rfl⟩
        | exact ⟨rfl, HFin.refl _⟩
        | (rename BD _ _ => hbd; cases hbd)
        | (rename ¬ _ = _ => hq; exact absurd rfl hq))
      · refine ⟨?_⟩
        rcases hy with ⟨rfl, hne, hinv⟩ | ⟨rfl, hnin, p, x, hx, hxi, hxk, hinv⟩
        · repeat' (first
            | refine f_seq ?_
            | (refine f_regionL Tryz.lv3 ?_; show opsWP _ _ _ _ _ _ _ _ _)
            | (refine f_drawL Tryz.lv3 Tryz.mixed ?_; show DrK _ _ _ _ _ _ _ _ _ _)
            | (refine ops_go rfl ?_; first
                | (apply g_sum Tryz.tbOk; exact rfl; exact rfl; exact rfl; exact rfl; exact rfl; (constructor <;> omega))
                | (apply g_rem Tryz.tbOk; exact rfl; exact rfl; exact rfl; exact rfl; (first | omega | (dsimp only; omega)))
                | (apply g_quo Tryz.tbOk; exact rfl; exact rfl; exact rfl; exact rfl; (first | omega | (dsimp only; omega)); (constructor <;> omega))
                | (apply g_cat; exact rfl; exact rfl; exact rfl; (first | omega | (simp; done) | (simp; omega)))
                | (apply g_cmp Tryz.tbOk; exact rfl; exact rfl; exact rfl; exact rfl; exact rfl; intro c hc; first | (have hb := BD.yes hc (by omega); subst hb; clear hc) | (have hb := BD.no hc (by omega); subst hb; clear hc) | skip)
                | (apply g_cmpS Tryz.tbOk; exact rfl; exact rfl; exact rfl; exact rfl; intro c hc)
                | (apply g_eqW Tryz.tbOk Tryz.elOk; exact rfl; exact rfl; exact rfl; exact rfl; exact rfl; exact rfl; intro c hc)
                | (apply g_conv Tryz.tbOk; exact rfl; exact rfl; exact rfl; exact rfl; exact rfl; (constructor <;> omega))
                | (apply x_set Tryz.tbOk Tryz.elOk Tryz.xtOk; exact rfl; exact rfl)
                | (apply x_grow Tryz.tbOk Tryz.elOk Tryz.xtOk; exact rfl; exact rfl)
                | (apply x_store Tryz.tbOk Tryz.elOk Tryz.xtOk; exact rfl)
                | (apply x_setN Tryz.tbOk Tryz.elOk Tryz.xtOk; exact rfl)
                | (apply g_ixs Tryz.tbOk; exact rfl; exact rfl; exact rfl; exact rfl; exact rfl; omega)
                | (apply g_ips Tryz.tbOk; exact rfl; exact rfl; exact rfl; exact rfl; exact rfl; exact rfl; exact rfl; (first | omega | (dsimp only; omega)))
                | (apply g_sls Tryz.tbOk; exact rfl; exact rfl; exact rfl; exact rfl; exact rfl; exact rfl; omega)
                | (apply g_ixg Tryz.tbOk; exact rfl; exact rfl; exact rfl; exact rfl; exact rfl; exact rfl; (first | omega | (dsimp only; omega))))
            | refine ops_skip rfl rfl ?_
            | refine ops_nil ?_
            | refine then_n ?_
            | refine f_condT rfl ?_
            | refine f_condF rfl ?_
            | refine f_block ?_
            | refine f_exit ?_
            | refine f_ret ?_
            | refine f_skip ?_
            | refine DrK.nil rfl ?_
            | refine d_skip rfl rfl ?_
            | refine d_skipN rfl ?_
            | (apply d_any; exact rfl; exact rfl; exact st_sum Tryz.tbOk rfl rfl rfl rfl (by constructor <;> omega))
            | (refine d_bd rfl rfl (st_cmp Tryz.tbOk rfl rfl rfl rfl) ?_; intro c hc; first | (have hb := BD.yes hc (by omega); subst hb; clear hc) | (have hb := BD.no hc (by omega); subst hb; clear hc) | skip)
            | (refine d_bd rfl rfl (st_cmpS Tryz.tbOk rfl rfl rfl) ?_; intro c hc)
            | (refine d_bd rfl rfl (st_eqW Tryz.tbOk Tryz.elOk rfl rfl rfl rfl rfl) ?_; intro c hc)
            | (apply d_set Tryz.tbOk Tryz.elOk Tryz.xtOk; exact rfl; exact rfl; exact rfl)
            | (apply d_ips Tryz.tbOk; exact rfl; exact rfl; exact rfl; exact rfl; exact rfl; exact rfl; exact rfl; exact rfl; (first | omega | (dsimp only; omega)))
            | (apply d_ixg Tryz.tbOk; exact rfl; exact rfl; exact rfl; exact rfl; exact rfl; exact rfl; exact rfl; (first | omega | (dsimp only; omega)))
            | (apply d_grow Tryz.tbOk Tryz.elOk Tryz.xtOk; exact rfl; exact rfl; exact rfl)
            | (apply d_store Tryz.tbOk Tryz.elOk Tryz.xtOk; exact rfl; exact rfl)
            | refine then_x ?_
            | refine then_r ?_
            | refine blk_n ?_
            | refine blk_eq rfl ?_
            | refine blk_ne rfl ?_
            | refine blk_r ?_
            | refine loop_x ?_
            | refine loop_r ?_
            | refine cut_x ?_
            | refine cut_r ?_
            | refine body_ret rfl rfl ?_
            | refine body_end rfl rfl ?_
            | exact (rfl : AEnd.ret _ = AEnd.ret _)
            | exact ⟨rfl, _, rfl⟩
            | exact ⟨rfl, HFin.refl _⟩
            | (rename BD _ _ => hbd; cases hbd)
            | (rename ¬ _ = _ => hq; exact absurd rfl hq))
          cases mine <;> exact cut_n (l, next, _) ⟨hne, hinv⟩ ⟨[0, 1, 2, 3], rfl, (by ((repeat' (first | exact trivial | exact rfl | assumption | exact objv_enc (by assumption) rfl | exact objv_gr (by assumption) rfl | exact get_fn rfl (by assumption) rfl | exact InSl.getr (by assumption) rfl | exact InSl.le (by assumption) _ | exact AVs.le_mono (Nat.le_of_ble_eq_true rfl) _ (by assumption) | exact Nat.le_of_ble_eq_true rfl | exact Enc.Gr.le (by assumption) _ _ | exact gr_le (by assumption) _ | refine ⟨?_, ?_⟩)); (first | done | fail))), rfl, rfl, (by ((repeat' (first | exact trivial | exact rfl | assumption | exact objv_enc (by assumption) rfl | exact objv_gr (by assumption) rfl | exact get_fn rfl (by assumption) rfl | exact InSl.getr (by assumption) rfl | exact InSl.le (by assumption) _ | exact AVs.le_mono (Nat.le_of_ble_eq_true rfl) _ (by assumption) | exact Nat.le_of_ble_eq_true rfl | exact Enc.Gr.le (by assumption) _ _ | exact gr_le (by assumption) _ | refine ⟨?_, ?_⟩)); (first | done | fail)))⟩
        · have hkey := key_spec G l next id p x (by have := hinv.len; omega) (by rw [← hxi]; exact place_iff hinv.sorted hx) hx hxi
          have hmn : ∀ (j : Nat) (y : Int), mine[j]? = some y → y ≠ id := fun j y hj e => hnin (e ▸ List.mem_of_getElem? hj)
          have hml := hinv.len_le
          have hlen := hinv.len
          rw [List.length_append, List.length_singleton] at hml
          have hne : l ≠ [] := by rintro rfl; simp at hx
          have hk1 : x.sealed = (kyOf b).sealed := by rw [← hxk]; rfl
          have hk2 : x.host = (kyOf b).host := by rw [← hxk]; rfl
          have hk3 : x.port = (kyOf b).port := by rw [← hxk]; rfl
          cases mine with
          | nil =>
            repeat' (first
              | (refine f_rounds (k := 1) ?_; show WP _ _ _ _ _ _ _ _)
              | refine f_seq ?_
              | (refine f_regionL Tryz.lv3 ?_; show opsWP _ _ _ _ _ _ _ _ _)
              | (refine f_drawL Tryz.lv3 Tryz.mixed ?_; show DrK _ _ _ _ _ _ _ _ _ _)
              | (refine ops_go rfl ?_; first
                  | (apply g_ret; exact rfl; exact rfl; exact Tryz.fnOk rfl; exact RetTo.frameR (hkey) [0, 1] rfl (by ((repeat' (first | exact trivial | exact fits_enc (by assumption) (fun _ => rfl) | exact fits_enc (by assumption) (fun h => h) | exact ⟨_, rfl, fun _ => rfl⟩ | exact ⟨_, rfl, fun h => h⟩ | refine ⟨?_, ?_⟩)); (first | done | fail))) (by ((repeat' (first | exact trivial | assumption | exact AVs.le_mono (Nat.le_of_ble_eq_true rfl) _ (by assumption) | exact Nat.le_of_ble_eq_true rfl | exact Enc.Gr.le (by assumption) _ _ | exact gr_le (by assumption) _ | exact InSl.le (by assumption) _ | refine ⟨?_, ?_⟩)); (first | done | fail))) (by ((repeat' (first | exact trivial | assumption | exact AVs.le_mono (Nat.le_of_ble_eq_true rfl) _ (by assumption) | exact Nat.le_of_ble_eq_true rfl | exact Enc.Gr.le (by assumption) _ _ | exact gr_le (by assumption) _ | exact InSl.le (by assumption) _ | refine ⟨?_, ?_⟩)); (first | done | fail))) rfl rfl rfl)
                  | (apply g_appN Tryz.tbOk; exact rfl; exact rfl; exact rfl; exact rfl; exact rfl; decide; (constructor <;> decide))
                  | (apply g_sum Tryz.tbOk; exact rfl; exact rfl; exact rfl; exact rfl; exact rfl; (constructor <;> omega))
                  | (apply g_rem Tryz.tbOk; exact rfl; exact rfl; exact rfl; exact rfl; (first | omega | (dsimp only; omega)))
                  | (apply g_quo Tryz.tbOk; exact rfl; exact rfl; exact rfl; exact rfl; (first | omega | (dsimp only; omega)); (constructor <;> omega))
                  | (apply g_cat; exact rfl; exact rfl; exact rfl; (first | omega | (simp; done) | (simp; omega)))
                  | (apply g_cmp Tryz.tbOk; exact rfl; exact rfl; exact rfl; exact rfl; exact rfl; intro c hc; first | (have hb := BD.yes hc (by omega); subst hb; clear hc) | (have hb := BD.no hc (by omega); subst hb; clear hc) | skip)
                  | (apply g_cmpS Tryz.tbOk; exact rfl; exact rfl; exact rfl; exact rfl; intro c hc)
                  | (apply g_eqW Tryz.tbOk Tryz.elOk; exact rfl; exact rfl; exact rfl; exact rfl; exact rfl; exact rfl; intro c hc)
                  | (apply g_conv Tryz.tbOk; exact rfl; exact rfl; exact rfl; exact rfl; exact rfl; (constructor <;> omega))
                  | (apply x_set Tryz.tbOk Tryz.elOk Tryz.xtOk; exact rfl; exact rfl)
                  | (apply x_grow Tryz.tbOk Tryz.elOk Tryz.xtOk; exact rfl; exact rfl)
                  | (apply x_store Tryz.tbOk Tryz.elOk Tryz.xtOk; exact rfl)
                  | (apply x_setN Tryz.tbOk Tryz.elOk Tryz.xtOk; exact rfl)
                  | (apply g_ixs Tryz.tbOk; exact rfl; exact rfl; exact rfl; exact rfl; exact rfl; omega)
                  | (apply g_ips Tryz.tbOk; exact rfl; exact rfl; exact rfl; exact rfl; exact rfl; exact rfl; exact rfl; (first | omega | (dsimp only; omega)))
                  | (apply g_sls Tryz.tbOk; exact rfl; exact rfl; exact rfl; exact rfl; exact rfl; exact rfl; omega)
                  | (apply g_ixg Tryz.tbOk; exact rfl; exact rfl; exact rfl; exact rfl; exact rfl; exact rfl; (first | omega | (dsimp only; omega))))
              | refine ops_skip rfl rfl ?_
              | refine ops_nil ?_
              | refine then_n ?_
              | refine f_condT rfl ?_
              | refine f_condF rfl ?_
              | refine f_block ?_
              | refine f_exit ?_
              | refine f_ret ?_
              | refine f_skip ?_
              | refine DrK.nil rfl ?_
              | refine d_skip rfl rfl ?_
              | refine d_skipN rfl ?_
              | (apply d_callR; exact rfl; exact rfl; exact rfl; exact Tryz.fnOk rfl; exact fun g => RetTo.frameR (hkey) [0, 1] rfl (by ((repeat' (first | exact trivial | exact fits_enc (by assumption) (fun _ => rfl) | exact fits_enc (by assumption) (fun h => h) | exact ⟨_, rfl, fun _ => rfl⟩ | exact ⟨_, rfl, fun h => h⟩ | refine ⟨?_, ?_⟩)); (first | done | fail))) (by ((repeat' (first | exact trivial | assumption | exact AVs.le_mono (Nat.le_of_ble_eq_true rfl) _ (by assumption) | exact Nat.le_of_ble_eq_true rfl | exact Enc.Gr.le (by assumption) _ _ | exact gr_le (by assumption) _ | exact InSl.le (by assumption) _ | refine ⟨?_, ?_⟩)); (first | done | fail))) (by ((repeat' (first | exact trivial | assumption | exact AVs.le_mono (Nat.le_of_ble_eq_true rfl) _ (by assumption) | exact Nat.le_of_ble_eq_true rfl | exact Enc.Gr.le (by assumption) _ _ | exact gr_le (by assumption) _ | exact InSl.le (by assumption) _ | refine ⟨?_, ?_⟩)); (first | done | fail))) rfl rfl (List.append_nil _))
              | (apply d_any; exact rfl; exact rfl; exact st_sum Tryz.tbOk rfl rfl rfl rfl (by constructor <;> omega))
              | (refine d_bd rfl rfl (st_cmp Tryz.tbOk rfl rfl rfl rfl) ?_; intro c hc; first | (have hb := BD.yes hc (by omega); subst hb; clear hc) | (have hb := BD.no hc (by omega); subst hb; clear hc) | skip)
              | (refine d_bd rfl rfl (st_cmpS Tryz.tbOk rfl rfl rfl) ?_; intro c hc)
              | (refine d_bd rfl rfl (st_eqW Tryz.tbOk Tryz.elOk rfl rfl rfl rfl rfl) ?_; intro c hc)
              | (apply d_set Tryz.tbOk Tryz.elOk Tryz.xtOk; exact rfl; exact rfl; exact rfl)
              | (apply d_ips Tryz.tbOk; exact rfl; exact rfl; exact rfl; exact rfl; exact rfl; exact rfl; exact rfl; exact rfl; (first | omega | (dsimp only; omega)))
              | (apply d_ixg Tryz.tbOk; exact rfl; exact rfl; exact rfl; exact rfl; exact rfl; exact rfl; exact rfl; (first | omega | (dsimp only; omega)))
              | (apply d_grow Tryz.tbOk Tryz.elOk Tryz.xtOk; exact rfl; exact rfl; exact rfl)
              | (apply d_store Tryz.tbOk Tryz.elOk Tryz.xtOk; exact rfl; exact rfl)
              | refine then_x ?_
              | refine then_r ?_
              | refine blk_n ?_
              | refine blk_eq rfl ?_
              | refine blk_ne rfl ?_
              | refine blk_r ?_
              | refine loop_x ?_
              | refine loop_r ?_
              | refine cut_x ?_
              | refine cut_r ?_
              | refine body_ret rfl rfl ?_
              | refine body_end rfl rfl ?_
              | exact (rfl : AEnd.ret _ = AEnd.ret _)
              | exact ⟨rfl, _, rfl⟩
              | exact ⟨rfl, HFin.refl _⟩
              | (rename BD _ _ => hbd; cases hbd)
              | (rename ¬ _ = _ => hq; exact absurd rfl hq))
            · rename_i q; simp [hk1, hk2, hk3] at q
            · exact cut_n (l, next, [id]) ⟨hne, hinv⟩ ⟨[0, 1, 6, 3], rfl, (by ((repeat' (first | exact trivial | exact rfl | assumption | exact objv_enc (by assumption) rfl | exact objv_gr (by assumption) rfl | exact get_fn rfl (by assumption) rfl | exact InSl.getr (by assumption) rfl | exact InSl.le (by assumption) _ | exact AVs.le_mono (Nat.le_of_ble_eq_true rfl) _ (by assumption) | exact Nat.le_of_ble_eq_true rfl | exact Enc.Gr.le (by assumption) _ _ | exact gr_le (by assumption) _ | refine ⟨?_, ?_⟩)); (first | done | fail))), rfl, rfl, (by ((repeat' (first | exact trivial | exact rfl | assumption | exact objv_enc (by assumption) rfl | exact objv_gr (by assumption) rfl | exact get_fn rfl (by assumption) rfl | exact InSl.getr (by assumption) rfl | exact InSl.le (by assumption) _ | exact AVs.le_mono (Nat.le_of_ble_eq_true rfl) _ (by assumption) | exact Nat.le_of_ble_eq_true rfl | exact Enc.Gr.le (by assumption) _ _ | exact gr_le (by assumption) _ | refine ⟨?_, ?_⟩)); (first | done | fail)))⟩
          | cons a t =>
            have hal : (a :: t).length = t.length + 1 := rfl
            simp only [List.length_cons] at hml
            repeat' (first
              | refine f_seq ?_
              | (refine f_regionL Tryz.lv3 ?_; show opsWP _ _ _ _ _ _ _ _ _)
              | (refine f_drawL Tryz.lv3 Tryz.mixed ?_; show DrK _ _ _ _ _ _ _ _ _ _)
              | (refine ops_go rfl ?_; first
                  | (apply g_ret; exact rfl; exact rfl; exact Tryz.fnOk rfl; exact RetTo.frameR (hkey) [0, 1] rfl (by ((repeat' (first | exact trivial | exact fits_enc (by assumption) (fun _ => rfl) | exact fits_enc (by assumption) (fun h => h) | exact ⟨_, rfl, fun _ => rfl⟩ | exact ⟨_, rfl, fun h => h⟩ | refine ⟨?_, ?_⟩)); (first | done | fail))) (by ((repeat' (first | exact trivial | assumption | exact AVs.le_mono (Nat.le_of_ble_eq_true rfl) _ (by assumption) | exact Nat.le_of_ble_eq_true rfl | exact Enc.Gr.le (by assumption) _ _ | exact gr_le (by assumption) _ | exact InSl.le (by assumption) _ | refine ⟨?_, ?_⟩)); (first | done | fail))) (by ((repeat' (first | exact trivial | assumption | exact AVs.le_mono (Nat.le_of_ble_eq_true rfl) _ (by assumption) | exact Nat.le_of_ble_eq_true rfl | exact Enc.Gr.le (by assumption) _ _ | exact gr_le (by assumption) _ | exact InSl.le (by assumption) _ | refine ⟨?_, ?_⟩)); (first | done | fail))) rfl rfl rfl)
                  | (apply g_sum Tryz.tbOk; exact rfl; exact rfl; exact rfl; exact rfl; exact rfl; (constructor <;> omega))
                  | (apply g_rem Tryz.tbOk; exact rfl; exact rfl; exact rfl; exact rfl; (first | omega | (dsimp only; omega)))
                  | (apply g_quo Tryz.tbOk; exact rfl; exact rfl; exact rfl; exact rfl; (first | omega | (dsimp only; omega)); (constructor <;> omega))
                  | (apply g_cat; exact rfl; exact rfl; exact rfl; (first | omega | (simp; done) | (simp; omega)))
                  | (apply g_cmp Tryz.tbOk; exact rfl; exact rfl; exact rfl; exact rfl; exact rfl; intro c hc; first | (have hb := BD.yes hc (by omega); subst hb; clear hc) | (have hb := BD.no hc (by omega); subst hb; clear hc) | skip)
                  | (apply g_cmpS Tryz.tbOk; exact rfl; exact rfl; exact rfl; exact rfl; intro c hc)
                  | (apply g_eqW Tryz.tbOk Tryz.elOk; exact rfl; exact rfl; exact rfl; exact rfl; exact rfl; exact rfl; intro c hc)
                  | (apply g_conv Tryz.tbOk; exact rfl; exact rfl; exact rfl; exact rfl; exact rfl; (constructor <;> omega))
                  | (apply x_set Tryz.tbOk Tryz.elOk Tryz.xtOk; exact rfl; exact rfl)
                  | (apply x_grow Tryz.tbOk Tryz.elOk Tryz.xtOk; exact rfl; exact rfl)
                  | (apply x_store Tryz.tbOk Tryz.elOk Tryz.xtOk; exact rfl)
                  | (apply x_setN Tryz.tbOk Tryz.elOk Tryz.xtOk; exact rfl)
                  | (apply g_ixs Tryz.tbOk; exact rfl; exact rfl; exact rfl; exact rfl; exact rfl; omega)
                  | (apply g_ips Tryz.tbOk; exact rfl; exact rfl; exact rfl; exact rfl; exact rfl; exact rfl; exact rfl; (first | omega | (dsimp only; omega)))
                  | (apply g_sls Tryz.tbOk; exact rfl; exact rfl; exact rfl; exact rfl; exact rfl; exact rfl; omega)
                  | (apply g_ixg Tryz.tbOk; exact rfl; exact rfl; exact rfl; exact rfl; exact rfl; exact rfl; (first | omega | (dsimp only; omega))))
              | refine ops_skip rfl rfl ?_
              | refine ops_nil ?_
              | refine then_n ?_
              | refine f_condT rfl ?_
              | refine f_condF rfl ?_
              | refine f_block ?_
              | refine f_exit ?_
              | refine f_ret ?_
              | refine f_skip ?_
              | refine DrK.nil rfl ?_
              | refine d_skip rfl rfl ?_
              | refine d_skipN rfl ?_
              | (apply d_callR; exact rfl; exact rfl; exact rfl; exact Tryz.fnOk rfl; exact fun g => RetTo.frameR (hkey) [0, 1] rfl (by ((repeat' (first | exact trivial | exact fits_enc (by assumption) (fun _ => rfl) | exact fits_enc (by assumption) (fun h => h) | exact ⟨_, rfl, fun _ => rfl⟩ | exact ⟨_, rfl, fun h => h⟩ | refine ⟨?_, ?_⟩)); (first | done | fail))) (by ((repeat' (first | exact trivial | assumption | exact AVs.le_mono (Nat.le_of_ble_eq_true rfl) _ (by assumption) | exact Nat.le_of_ble_eq_true rfl | exact Enc.Gr.le (by assumption) _ _ | exact gr_le (by assumption) _ | exact InSl.le (by assumption) _ | refine ⟨?_, ?_⟩)); (first | done | fail))) (by ((repeat' (first | exact trivial | assumption | exact AVs.le_mono (Nat.le_of_ble_eq_true rfl) _ (by assumption) | exact Nat.le_of_ble_eq_true rfl | exact Enc.Gr.le (by assumption) _ _ | exact gr_le (by assumption) _ | exact InSl.le (by assumption) _ | refine ⟨?_, ?_⟩)); (first | done | fail))) rfl rfl (List.append_nil _))
              | (apply d_any; exact rfl; exact rfl; exact st_sum Tryz.tbOk rfl rfl rfl rfl (by constructor <;> omega))
              | (refine d_bd rfl rfl (st_cmp Tryz.tbOk rfl rfl rfl rfl) ?_; intro c hc; first | (have hb := BD.yes hc (by omega); subst hb; clear hc) | (have hb := BD.no hc (by omega); subst hb; clear hc) | skip)
              | (refine d_bd rfl rfl (st_cmpS Tryz.tbOk rfl rfl rfl) ?_; intro c hc)
              | (refine d_bd rfl rfl (st_eqW Tryz.tbOk Tryz.elOk rfl rfl rfl rfl rfl) ?_; intro c hc)
              | (apply d_set Tryz.tbOk Tryz.elOk Tryz.xtOk; exact rfl; exact rfl; exact rfl)
              | (apply d_ips Tryz.tbOk; exact rfl; exact rfl; exact rfl; exact rfl; exact rfl; exact rfl; exact rfl; exact rfl; (first | omega | (dsimp only; omega)))
              | (apply d_ixg Tryz.tbOk; exact rfl; exact rfl; exact rfl; exact rfl; exact rfl; exact rfl; exact rfl; (first | omega | (dsimp only; omega)))
              | (apply d_grow Tryz.tbOk Tryz.elOk Tryz.xtOk; exact rfl; exact rfl; exact rfl)
              | (apply d_store Tryz.tbOk Tryz.elOk Tryz.xtOk; exact rfl; exact rfl)
              | refine then_x ?_
              | refine then_r ?_
              | refine blk_n ?_
              | refine blk_eq rfl ?_
              | refine blk_ne rfl ?_
              | refine blk_r ?_
              | refine loop_x ?_
              | refine loop_r ?_
              | refine cut_x ?_
              | refine cut_r ?_
              | refine body_ret rfl rfl ?_
              | refine body_end rfl rfl ?_
              | exact (rfl : AEnd.ret _ = AEnd.ret _)
              | exact ⟨rfl, _, rfl⟩
              | exact ⟨rfl, HFin.refl _⟩
              | (rename BD _ _ => hbd; cases hbd)
              | (rename ¬ _ = _ => hq; exact absurd rfl hq))
            · rename_i q; simp [hk1, hk2, hk3] at q
            · refine f_loopC (fun k : Nat => [(0, .gslc tg to T.length tc), (1, gv), (5, .ptr 0 0), (6, .slc 2 0 (a :: t).length (.opn 0 0)), (7, .int .i64 i), (8, .ptr 3 0), (9, .int .i64 id), (14, .int .i64 k)]) (fun k => k ≤ (a :: t).length) (fun k => (a :: t).length - k) 0 (Nat.zero_le _) ⟨rfl, rfl, rfl, rfl, rfl, rfl, rfl, rfl, trivial⟩ (fun _ => rfl) rfl (fun _ _ => (by ((repeat' (first | exact trivial | assumption | exact AVs.le_mono (Nat.le_of_ble_eq_true rfl) _ (by assumption) | exact Nat.le_of_ble_eq_true rfl | exact Enc.Gr.le (by assumption) _ _ | exact gr_le (by assumption) _ | exact InSl.le (by assumption) _ | refine ⟨?_, ?_⟩)); (first | done | fail)))) ?_
              intro k hk
              rcases Nat.lt_or_ge k (a :: t).length with hkl | hkl
              · obtain ⟨y, hyk⟩ : ∃ y, (a :: t)[k]? = some y := ⟨_, List.getElem?_eq_getElem hkl⟩
                have hyn := hmn k y hyk
                repeat' (first
                  | refine f_seq ?_
                  | (refine f_regionL Tryz.lv3 ?_; show opsWP _ _ _ _ _ _ _ _ _)
                  | (refine f_drawL Tryz.lv3 Tryz.mixed ?_; show DrK _ _ _ _ _ _ _ _ _ _)
                  | (refine ops_go rfl ?_; first
                      | (apply g_load Tryz.tbOk; exact rfl; exact rfl; exact rfl; exact rfl; exact intE.load_cell (j := 0) hyk rfl (by dsimp only; omega) (by decide) rfl)
                      | (apply g_sum Tryz.tbOk; exact rfl; exact rfl; exact rfl; exact rfl; exact rfl; (constructor <;> omega))
                      | (apply g_rem Tryz.tbOk; exact rfl; exact rfl; exact rfl; exact rfl; (first | omega | (dsimp only; omega)))
                      | (apply g_quo Tryz.tbOk; exact rfl; exact rfl; exact rfl; exact rfl; (first | omega | (dsimp only; omega)); (constructor <;> omega))
                      | (apply g_cat; exact rfl; exact rfl; exact rfl; (first | omega | (simp; done) | (simp; omega)))
                      | (apply g_cmp Tryz.tbOk; exact rfl; exact rfl; exact rfl; exact rfl; exact rfl; intro c hc; first | (have hb := BD.yes hc (by omega); subst hb; clear hc) | (have hb := BD.no hc (by omega); subst hb; clear hc) | skip)
                      | (apply g_cmpS Tryz.tbOk; exact rfl; exact rfl; exact rfl; exact rfl; intro c hc)
                      | (apply g_eqW Tryz.tbOk Tryz.elOk; exact rfl; exact rfl; exact rfl; exact rfl; exact rfl; exact rfl; intro c hc)
                      | (apply g_conv Tryz.tbOk; exact rfl; exact rfl; exact rfl; exact rfl; exact rfl; (constructor <;> omega))
                      | (apply x_set Tryz.tbOk Tryz.elOk Tryz.xtOk; exact rfl; exact rfl)
                      | (apply x_grow Tryz.tbOk Tryz.elOk Tryz.xtOk; exact rfl; exact rfl)
                      | (apply x_store Tryz.tbOk Tryz.elOk Tryz.xtOk; exact rfl)
                      | (apply x_setN Tryz.tbOk Tryz.elOk Tryz.xtOk; exact rfl)
                      | (apply g_ixs Tryz.tbOk; exact rfl; exact rfl; exact rfl; exact rfl; exact rfl; omega)
                      | (apply g_ips Tryz.tbOk; exact rfl; exact rfl; exact rfl; exact rfl; exact rfl; exact rfl; exact rfl; (first | omega | (dsimp only; omega)))
                      | (apply g_sls Tryz.tbOk; exact rfl; exact rfl; exact rfl; exact rfl; exact rfl; exact rfl; omega)
                      | (apply g_ixg Tryz.tbOk; exact rfl; exact rfl; exact rfl; exact rfl; exact rfl; exact rfl; (first | omega | (dsimp only; omega))))
                  | refine ops_skip rfl rfl ?_
                  | refine ops_nil ?_
                  | refine then_n ?_
                  | refine f_condT rfl ?_
                  | refine f_condF rfl ?_
                  | refine f_block ?_
                  | refine f_exit ?_
                  | refine f_ret ?_
                  | refine f_skip ?_
                  | refine DrK.nil rfl ?_
                  | refine d_skip rfl rfl ?_
                  | refine d_skipN rfl ?_
                  | (apply d_load Tryz.tbOk; exact rfl; exact rfl; exact rfl; exact rfl; exact rfl; exact intE.load_cell (j := 0) hyk rfl (by dsimp only; omega) (by decide) rfl)
                  | (apply d_any; exact rfl; exact rfl; exact st_sum Tryz.tbOk rfl rfl rfl rfl (by constructor <;> omega))
                  | (refine d_bd rfl rfl (st_cmp Tryz.tbOk rfl rfl rfl rfl) ?_; intro c hc; first | (have hb := BD.yes hc (by omega); subst hb; clear hc) | (have hb := BD.no hc (by omega); subst hb; clear hc) | skip)
                  | (refine d_bd rfl rfl (st_cmpS Tryz.tbOk rfl rfl rfl) ?_; intro c hc)
                  | (refine d_bd rfl rfl (st_eqW Tryz.tbOk Tryz.elOk rfl rfl rfl rfl rfl) ?_; intro c hc)
                  | (apply d_set Tryz.tbOk Tryz.elOk Tryz.xtOk; exact rfl; exact rfl; exact rfl)
                  | (apply d_ips Tryz.tbOk; exact rfl; exact rfl; exact rfl; exact rfl; exact rfl; exact rfl; exact rfl; exact rfl; (first | omega | (dsimp only; omega)))
                  | (apply d_ixg Tryz.tbOk; exact rfl; exact rfl; exact rfl; exact rfl; exact rfl; exact rfl; exact rfl; (first | omega | (dsimp only; omega)))
                  | (apply d_grow Tryz.tbOk Tryz.elOk Tryz.xtOk; exact rfl; exact rfl; exact rfl)
                  | (apply d_store Tryz.tbOk Tryz.elOk Tryz.xtOk; exact rfl; exact rfl)
                  | refine then_x ?_
                  | refine then_r ?_
                  | refine blk_n ?_
                  | refine blk_eq rfl ?_
                  | refine blk_ne rfl ?_
                  | refine blk_r ?_
                  | refine loop_x ?_
                  | refine loop_r ?_
                  | refine cut_x ?_
                  | refine cut_r ?_
                  | refine body_ret rfl rfl ?_
                  | refine body_end rfl rfl ?_
                  | exact (rfl : AEnd.ret _ = AEnd.ret _)
                  | exact ⟨rfl, _, rfl⟩
                  | exact ⟨rfl, HFin.refl _⟩
                  | (rename BD _ _ => hbd; cases hbd)
                  | (rename ¬ _ = _ => hq; exact absurd rfl hq))
                exact loop_c (k + 1) (by omega) (by omega) ⟨rfl, rfl, rfl, rfl, rfl, rfl, rfl, rfl, trivial⟩ rfl ⟨[], rfl⟩
              · repeat' (first
                  | refine f_seq ?_
                  | (refine f_regionL Tryz.lv3 ?_; show opsWP _ _ _ _ _ _ _ _ _)
                  | (refine f_drawL Tryz.lv3 Tryz.mixed ?_; show DrK _ _ _ _ _ _ _ _ _ _)
                  | (refine ops_go rfl ?_; first
                      | (apply g_app1 (a :: (t ++ [id])).length Tryz.tbOk; exact rfl; exact rfl; exact rfl; exact rfl; exact rfl; exact rfl; exact rfl; (rw [intE.of_length]); (simp only [List.length_cons]; constructor <;> omega); exact (intE.of_append (a :: t) [id]).symm; simp)
                      | (apply g_sum Tryz.tbOk; exact rfl; exact rfl; exact rfl; exact rfl; exact rfl; (constructor <;> omega))
                      | (apply g_rem Tryz.tbOk; exact rfl; exact rfl; exact rfl; exact rfl; (first | omega | (dsimp only; omega)))
                      | (apply g_quo Tryz.tbOk; exact rfl; exact rfl; exact rfl; exact rfl; (first | omega | (dsimp only; omega)); (constructor <;> omega))
                      | (apply g_cat; exact rfl; exact rfl; exact rfl; (first | omega | (simp; done) | (simp; omega)))
                      | (apply g_cmp Tryz.tbOk; exact rfl; exact rfl; exact rfl; exact rfl; exact rfl; intro c hc; first | (have hb := BD.yes hc (by omega); subst hb; clear hc) | (have hb := BD.no hc (by omega); subst hb; clear hc) | skip)
                      | (apply g_cmpS Tryz.tbOk; exact rfl; exact rfl; exact rfl; exact rfl; intro c hc)
                      | (apply g_eqW Tryz.tbOk Tryz.elOk; exact rfl; exact rfl; exact rfl; exact rfl; exact rfl; exact rfl; intro c hc)
                      | (apply g_conv Tryz.tbOk; exact rfl; exact rfl; exact rfl; exact rfl; exact rfl; (constructor <;> omega))
                      | (apply x_set Tryz.tbOk Tryz.elOk Tryz.xtOk; exact rfl; exact rfl)
                      | (apply x_grow Tryz.tbOk Tryz.elOk Tryz.xtOk; exact rfl; exact rfl)
                      | (apply x_store Tryz.tbOk Tryz.elOk Tryz.xtOk; exact rfl)
                      | (apply x_setN Tryz.tbOk Tryz.elOk Tryz.xtOk; exact rfl)
                      | (apply g_ixs Tryz.tbOk; exact rfl; exact rfl; exact rfl; exact rfl; exact rfl; omega)
                      | (apply g_ips Tryz.tbOk; exact rfl; exact rfl; exact rfl; exact rfl; exact rfl; exact rfl; exact rfl; (first | omega | (dsimp only; omega)))
                      | (apply g_sls Tryz.tbOk; exact rfl; exact rfl; exact rfl; exact rfl; exact rfl; exact rfl; omega)
                      | (apply g_ixg Tryz.tbOk; exact rfl; exact rfl; exact rfl; exact rfl; exact rfl; exact rfl; (first | omega | (dsimp only; omega))))
                  | refine ops_skip rfl rfl ?_
                  | refine ops_nil ?_
                  | refine then_n ?_
                  | refine f_condT rfl ?_
                  | refine f_condF rfl ?_
                  | refine f_block ?_
                  | refine f_exit ?_
                  | refine f_ret ?_
                  | refine f_skip ?_
                  | refine DrK.nil rfl ?_
                  | refine d_skip rfl rfl ?_
                  | refine d_skipN rfl ?_
                  | (apply d_any; exact rfl; exact rfl; exact st_sum Tryz.tbOk rfl rfl rfl rfl (by constructor <;> omega))
                  | (refine d_bd rfl rfl (st_cmp Tryz.tbOk rfl rfl rfl rfl) ?_; intro c hc; first | (have hb := BD.yes hc (by omega); subst hb; clear hc) | (have hb := BD.no hc (by omega); subst hb; clear hc) | skip)
                  | (refine d_bd rfl rfl (st_cmpS Tryz.tbOk rfl rfl rfl) ?_; intro c hc)
                  | (refine d_bd rfl rfl (st_eqW Tryz.tbOk Tryz.elOk rfl rfl rfl rfl rfl) ?_; intro c hc)
                  | (apply d_set Tryz.tbOk Tryz.elOk Tryz.xtOk; exact rfl; exact rfl; exact rfl)
                  | (apply d_ips Tryz.tbOk; exact rfl; exact rfl; exact rfl; exact rfl; exact rfl; exact rfl; exact rfl; exact rfl; (first | omega | (dsimp only; omega)))
                  | (apply d_ixg Tryz.tbOk; exact rfl; exact rfl; exact rfl; exact rfl; exact rfl; exact rfl; exact rfl; (first | omega | (dsimp only; omega)))
                  | (apply d_grow Tryz.tbOk Tryz.elOk Tryz.xtOk; exact rfl; exact rfl; exact rfl)
                  | (apply d_store Tryz.tbOk Tryz.elOk Tryz.xtOk; exact rfl; exact rfl)
                  | refine then_x ?_
                  | refine then_r ?_
                  | refine blk_n ?_
                  | refine blk_eq rfl ?_
                  | refine blk_ne rfl ?_
                  | refine blk_r ?_
                  | refine loop_x ?_
                  | refine loop_r ?_
                  | refine cut_x ?_
                  | refine cut_r ?_
                  | refine body_ret rfl rfl ?_
                  | refine body_end rfl rfl ?_
                  | exact (rfl : AEnd.ret _ = AEnd.ret _)
                  | exact ⟨rfl, _, rfl⟩
                  | exact ⟨rfl, HFin.refl _⟩
                  | (rename BD _ _ => hbd; cases hbd)
                  | (rename ¬ _ = _ => hq; exact absurd rfl hq))
                exact cut_n (l, next, a :: (t ++ [id])) ⟨hne, hinv⟩ ⟨[0, 1, 6, 3], rfl, (by ((repeat' (first | exact trivial | exact rfl | assumption | exact objv_enc (by assumption) rfl | exact objv_gr (by assumption) rfl | exact get_fn rfl (by assumption) rfl | exact InSl.getr (by assumption) rfl | exact InSl.le (by assumption) _ | exact AVs.le_mono (Nat.le_of_ble_eq_true rfl) _ (by assumption) | exact Nat.le_of_ble_eq_true rfl | exact Enc.Gr.le (by assumption) _ _ | exact gr_le (by assumption) _ | refine ⟨?_, ?_⟩)); (first | done | fail))), rfl, rfl, (by ((repeat' (first | exact trivial | exact rfl | assumption | exact objv_enc (by assumption) rfl | exact objv_gr (by assumption) rfl | exact get_fn rfl (by assumption) rfl | exact InSl.getr (by assumption) rfl | exact InSl.le (by assumption) _ | exact AVs.le_mono (Nat.le_of_ble_eq_true rfl) _ (by assumption) | exact Nat.le_of_ble_eq_true rfl | exact Enc.Gr.le (by assumption) _ _ | exact gr_le (by assumption) _ | refine ⟨?_, ?_⟩)); (first | done | fail)))⟩
      · rintro ⟨l, next, mine⟩ ⟨hne, hinv⟩
        dsimp only at hne hinv ⊢
        repeat' (first
          | refine f_cutI 84 (fun y : List Cn × Int × List Int => [((0 : Nat), .gslc tg to T.length tc), (1, gv), (5, .ptr 0 0), (6, outV 2 y.2.2), (7, .int .i64 i), (8, .ptr 3 0)]) (fun y => [cW (.slc 1 0 y.1.length (.opn 0 0)) y.2.1, aW y.1, outD y.2.2, kO (kyOf b) true]) (fun y => y.1 ≠ [] ∧ Inv (i + 1) y.1 y.2.1 y.2.2) ?_ ?_
          | refine f_seq ?_
          | (refine f_regionL Tryz.lv3 ?_; show opsWP _ _ _ _ _ _ _ _ _)
          | (refine f_drawL Tryz.lv3 Tryz.mixed ?_; show DrK _ _ _ _ _ _ _ _ _ _)
          | (refine ops_go rfl ?_; first
              | (apply g_sum Tryz.tbOk; exact rfl; exact rfl; exact rfl; exact rfl; exact rfl; (constructor <;> omega))
              | (apply g_rem Tryz.tbOk; exact rfl; exact rfl; exact rfl; exact rfl; (first | omega | (dsimp only; omega)))
              | (apply g_quo Tryz.tbOk; exact rfl; exact rfl; exact rfl; exact rfl; (first | omega | (dsimp only; omega)); (constructor <;> omega))
              | (apply g_cat; exact rfl; exact rfl; exact rfl; (first | omega | (simp; done) | (simp; omega)))
              | (apply g_cmp Tryz.tbOk; exact rfl; exact rfl; exact rfl; exact rfl; exact rfl; intro c hc; first | (have hb := BD.yes hc (by omega); subst hb; clear hc) | (have hb := BD.no hc (by omega); subst hb; clear hc) | skip)
              | (apply g_cmpS Tryz.tbOk; exact rfl; exact rfl; exact rfl; exact rfl; intro c hc)
              | (apply g_eqW Tryz.tbOk Tryz.elOk; exact rfl; exact rfl; exact rfl; exact rfl; exact rfl; exact rfl; intro c hc)
              | (apply g_conv Tryz.tbOk; exact rfl; exact rfl; exact rfl; exact rfl; exact rfl; (constructor <;> omega))
              | (apply x_set Tryz.tbOk Tryz.elOk Tryz.xtOk; exact rfl; exact rfl)
              | (apply x_grow Tryz.tbOk Tryz.elOk Tryz.xtOk; exact rfl; exact rfl)
              | (apply x_store Tryz.tbOk Tryz.elOk Tryz.xtOk; exact rfl)
              | (apply x_setN Tryz.tbOk Tryz.elOk Tryz.xtOk; exact rfl)
              | (apply g_ixs Tryz.tbOk; exact rfl; exact rfl; exact rfl; exact rfl; exact rfl; omega)
              | (apply g_ips Tryz.tbOk; exact rfl; exact rfl; exact rfl; exact rfl; exact rfl; exact rfl; exact rfl; (first | omega | (dsimp only; omega)))
              | (apply g_sls Tryz.tbOk; exact rfl; exact rfl; exact rfl; exact rfl; exact rfl; exact rfl; omega)
              | (apply g_ixg Tryz.tbOk; exact rfl; exact rfl; exact rfl; exact rfl; exact rfl; exact rfl; (first | omega | (dsimp only; omega))))
          | refine ops_skip rfl rfl ?_
          | refine ops_nil ?_
          | refine then_n ?_
          | refine f_condT rfl ?_
          | refine f_condF rfl ?_
          | refine f_block ?_
          | refine f_exit ?_
          | refine f_ret ?_
          | refine f_skip ?_
          | refine DrK.nil rfl ?_
          | refine d_skip rfl rfl ?_
          | refine d_skipN rfl ?_
          | (apply d_any; exact rfl; exact rfl; exact st_sum Tryz.tbOk rfl rfl rfl rfl (by constructor <;> omega))
          | (refine d_bd rfl rfl (st_cmp Tryz.tbOk rfl rfl rfl rfl) ?_; intro c hc; first | (have hb := BD.yes hc (by omega); subst hb; clear hc) | (have hb := BD.no hc (by omega); subst hb; clear hc) | skip)
          | (refine d_bd rfl rfl (st_cmpS Tryz.tbOk rfl rfl rfl) ?_; intro c hc)
          | (refine d_bd rfl rfl (st_eqW Tryz.tbOk Tryz.elOk rfl rfl rfl rfl rfl) ?_; intro c hc)
          | (apply d_set Tryz.tbOk Tryz.elOk Tryz.xtOk; exact rfl; exact rfl; exact rfl)
          | (apply d_ips Tryz.tbOk; exact rfl; exact rfl; exact rfl; exact rfl; exact rfl; exact rfl; exact rfl; exact rfl; (first | omega | (dsimp only; omega)))
          | (apply d_ixg Tryz.tbOk; exact rfl; exact rfl; exact rfl; exact rfl; exact rfl; exact rfl; exact rfl; (first | omega | (dsimp only; omega)))
          | (apply d_grow Tryz.tbOk Tryz.elOk Tryz.xtOk; exact rfl; exact rfl; exact rfl)
          | (apply d_store Tryz.tbOk Tryz.elOk Tryz.xtOk; exact rfl; exact rfl)
          | refine then_x ?_
          | refine then_r ?_
          | refine blk_n ?_
          | refine blk_eq rfl ?_
          | refine blk_ne rfl ?_
          | refine blk_r ?_
          | refine loop_x ?_
          | refine loop_r ?_
          | refine cut_x ?_
          | refine cut_r ?_
          | refine body_ret rfl rfl ?_
          | refine body_end rfl rfl ?_
          | exact (rfl : AEnd.ret _ = AEnd.ret _)
          | exact ⟨rfl, _, rfl⟩
          | exact ⟨rfl, HFin.refl _⟩
          | (rename BD _ _ => hbd; cases hbd)
          | (rename ¬ _ = _ => hq; exact absurd rfl hq))
        · refine ⟨?_⟩
          have hlg := hG.len
          rcases Nat.lt_or_ge i Gs.length with hig | hig
          · obtain ⟨gb, hgb⟩ : ∃ gb, Gs[i]? = some gb := ⟨_, List.getElem?_eq_getElem hig⟩
            obtain ⟨gg, go, gc, rfl, hGG⟩ := hG.get hgb
            cases mine with
            | nil =>
              repeat' (first
                | refine f_seq ?_
                | (refine f_regionL Tryz.lv3 ?_; show opsWP _ _ _ _ _ _ _ _ _)
                | (refine f_drawL Tryz.lv3 Tryz.mixed ?_; show DrK _ _ _ _ _ _ _ _ _ _)
                | (refine ops_go rfl ?_; first
                    | (apply g_len Tryz.tbOk; exact rfl; exact rfl; exact rfl; exact rfl; exact hlg)
                    | (apply g_sum Tryz.tbOk; exact rfl; exact rfl; exact rfl; exact rfl; exact rfl; (constructor <;> omega))
                    | (apply g_rem Tryz.tbOk; exact rfl; exact rfl; exact rfl; exact rfl; (first | omega | (dsimp only; omega)))
                    | (apply g_quo Tryz.tbOk; exact rfl; exact rfl; exact rfl; exact rfl; (first | omega | (dsimp only; omega)); (constructor <;> omega))
                    | (apply g_cat; exact rfl; exact rfl; exact rfl; (first | omega | (simp; done) | (simp; omega)))
                    | (apply g_cmp Tryz.tbOk; exact rfl; exact rfl; exact rfl; exact rfl; exact rfl; intro c hc; first | (have hb := BD.yes hc (by omega); subst hb; clear hc) | (have hb := BD.no hc (by omega); subst hb; clear hc) | skip)
                    | (apply g_cmpS Tryz.tbOk; exact rfl; exact rfl; exact rfl; exact rfl; intro c hc)
                    | (apply g_eqW Tryz.tbOk Tryz.elOk; exact rfl; exact rfl; exact rfl; exact rfl; exact rfl; exact rfl; intro c hc)
                    | (apply g_conv Tryz.tbOk; exact rfl; exact rfl; exact rfl; exact rfl; exact rfl; (constructor <;> omega))
                    | (apply x_set Tryz.tbOk Tryz.elOk Tryz.xtOk; exact rfl; exact rfl)
                    | (apply x_grow Tryz.tbOk Tryz.elOk Tryz.xtOk; exact rfl; exact rfl)
                    | (apply x_store Tryz.tbOk Tryz.elOk Tryz.xtOk; exact rfl)
                    | (apply x_setN Tryz.tbOk Tryz.elOk Tryz.xtOk; exact rfl)
                    | (apply g_ixs Tryz.tbOk; exact rfl; exact rfl; exact rfl; exact rfl; exact rfl; omega)
                    | (apply g_ips Tryz.tbOk; exact rfl; exact rfl; exact rfl; exact rfl; exact rfl; exact rfl; exact rfl; (first | omega | (dsimp only; omega)))
                    | (apply g_sls Tryz.tbOk; exact rfl; exact rfl; exact rfl; exact rfl; exact rfl; exact rfl; omega)
                    | (apply g_ixg Tryz.tbOk; exact rfl; exact rfl; exact rfl; exact rfl; exact rfl; exact rfl; (first | omega | (dsimp only; omega))))
                | refine ops_skip rfl rfl ?_
                | refine ops_nil ?_
                | refine then_n ?_
                | refine f_condT rfl ?_
                | refine f_condF rfl ?_
                | refine f_block ?_
                | refine f_exit ?_
                | refine f_ret ?_
                | refine f_skip ?_
                | refine DrK.nil rfl ?_
                | refine d_skip rfl rfl ?_
                | refine d_skipN rfl ?_
                | (apply d_any; exact rfl; exact rfl; exact st_sum Tryz.tbOk rfl rfl rfl rfl (by constructor <;> omega))
                | (refine d_bd rfl rfl (st_cmp Tryz.tbOk rfl rfl rfl rfl) ?_; intro c hc; first | (have hb := BD.yes hc (by omega); subst hb; clear hc) | (have hb := BD.no hc (by omega); subst hb; clear hc) | skip)
                | (refine d_bd rfl rfl (st_cmpS Tryz.tbOk rfl rfl rfl) ?_; intro c hc)
                | (refine d_bd rfl rfl (st_eqW Tryz.tbOk Tryz.elOk rfl rfl rfl rfl rfl) ?_; intro c hc)
                | (apply d_set Tryz.tbOk Tryz.elOk Tryz.xtOk; exact rfl; exact rfl; exact rfl)
                | (apply d_ips Tryz.tbOk; exact rfl; exact rfl; exact rfl; exact rfl; exact rfl; exact rfl; exact rfl; exact rfl; (first | omega | (dsimp only; omega)))
                | (apply d_ixg Tryz.tbOk; exact rfl; exact rfl; exact rfl; exact rfl; exact rfl; exact rfl; exact rfl; (first | omega | (dsimp only; omega)))
                | (apply d_grow Tryz.tbOk Tryz.elOk Tryz.xtOk; exact rfl; exact rfl; exact rfl)
                | (apply d_store Tryz.tbOk Tryz.elOk Tryz.xtOk; exact rfl; exact rfl)
                | refine then_x ?_
                | refine then_r ?_
                | refine blk_n ?_
                | refine blk_eq rfl ?_
                | refine blk_ne rfl ?_
                | refine blk_r ?_
                | refine loop_x ?_
                | refine loop_r ?_
                | refine cut_x ?_
                | refine cut_r ?_
                | refine body_ret rfl rfl ?_
                | refine body_end rfl rfl ?_
                | exact (rfl : AEnd.ret _ = AEnd.ret _)
                | exact ⟨rfl, _, rfl⟩
                | exact ⟨rfl, HFin.refl _⟩
                | (rename BD _ _ => hbd; cases hbd)
                | (rename ¬ _ = _ => hq; exact absurd rfl hq))
              exact cut_n (l, next, []) ⟨hne, hinv⟩ ⟨[0, 1, 2, 3], rfl, (by ((repeat' (first | exact trivial | exact rfl | assumption | exact objv_enc (by assumption) rfl | exact objv_gr (by assumption) rfl | exact get_fn rfl (by assumption) rfl | exact InSl.getr (by assumption) rfl | exact InSl.le (by assumption) _ | exact AVs.le_mono (Nat.le_of_ble_eq_true rfl) _ (by assumption) | exact Nat.le_of_ble_eq_true rfl | exact Enc.Gr.le (by assumption) _ _ | exact gr_le (by assumption) _ | refine ⟨?_, ?_⟩)); (first | done | fail))), rfl, rfl, (by ((repeat' (first | exact trivial | exact rfl | assumption | exact objv_enc (by assumption) rfl | exact objv_gr (by assumption) rfl | exact get_fn rfl (by assumption) rfl | exact InSl.getr (by assumption) rfl | exact InSl.le (by assumption) _ | exact AVs.le_mono (Nat.le_of_ble_eq_true rfl) _ (by assumption) | exact Nat.le_of_ble_eq_true rfl | exact Enc.Gr.le (by assumption) _ _ | exact gr_le (by assumption) _ | refine ⟨?_, ?_⟩)); (first | done | fail)))⟩
            | cons a t =>
              have hal : (a :: t).length = t.length + 1 := rfl
              have hml := hinv.len_le
              have hlen := hinv.len
              obtain ⟨m, hm⟩ : ∃ m, gb.toNat % (a :: t).length = m := ⟨_, rfl⟩
              have hmlt : m < (a :: t).length := by rw [← hm]; exact Nat.mod_lt _ (by simp)
              have hrem : (gb.toNat : Int) % ((a :: t).length : Int) = (m : Int) := by rw [← hm]; exact (Int.natCast_emod _ _).symm
              obtain ⟨id, hid⟩ : ∃ id, (a :: t)[m]? = some id := ⟨_, List.getElem?_eq_getElem hmlt⟩
              obtain ⟨p, x, hx, hxi, hxg, hinv2⟩ := hinv.give hid (now := (i : Int)) (by omega)
              have hp := get_lt hx
              have hgb8 : gb.toNat < 256 := gb.toNat_lt
              have hx2 : (l.set p { x with given := (i : Int) })[p]? = some { x with given := (i : Int) } := List.getElem?_set_self hp
              have hg1 := give_spec G l next id (i : Int) p x (by omega) (by rw [← hxi]; exact place_iff hinv.sorted hx) hx hxi (by omega) (by omega)
              have hg2 := give2_spec G (l.set p { x with given := (i : Int) }) next id (i : Int) p { x with given := (i : Int) } (by rw [List.length_set]; omega) (fun k y hy => by have := place_iff hinv2.sorted hx2 k y hy; dsimp only at this; rw [hxi] at this; exact this) hx2 hxi (by dsimp only; omega) (by omega)
              rw [List.length_set] at hg2
              have hset : (l.set p { x with given := (i : Int) }).length = l.length := List.length_set
              have hne2 : l.set p { x with given := (i : Int) } ≠ [] := by intro e; rw [e] at hset; simp at hset; omega
              generalize hl2 : l.set p { x with given := (i : Int) } = l2 at *
              cases m with
              | zero =>
                cases t with
                | nil =>
                  repeat' (first
                    | refine f_seq ?_
                    | (refine f_regionL Tryz.lv3 ?_; show opsWP _ _ _ _ _ _ _ _ _)
                    | (refine f_drawL Tryz.lv3 Tryz.mixed ?_; show DrK _ _ _ _ _ _ _ _ _ _)
                    | (refine ops_go rfl ?_; first
                        | (apply g_len Tryz.tbOk; exact rfl; exact rfl; exact rfl; exact rfl; exact hlg)
                        | (apply g_loadG Tryz.tbOk; exact rfl; exact rfl; exact rfl; exact (hGG.load_cell (j := 0) hgb rfl (by dsimp only; omega) rfl))
                        | (apply g_remE ((0 : Nat) : Int) Tryz.tbOk; exact rfl; exact rfl; exact rfl; exact rfl; (first | omega | (dsimp only; omega)); exact hrem)
                        | (apply g_load Tryz.tbOk; exact rfl; exact rfl; exact rfl; exact rfl; exact intE.load_cell (j := 0) hid rfl (by dsimp only; omega) (by decide) rfl)
                        | (apply g_ret (h' := [cW (.slc 1 0 l.length (.opn 0 0)) next, aW l2, outD [a], kO (kyOf b) true]); exact rfl; exact rfl; exact Tryz.fnOk rfl; exact RetTo.frameX hg1 [0, 1] rfl (by ((repeat' (first | exact trivial | exact fits_enc (by assumption) (fun _ => rfl) | exact fits_enc (by assumption) (fun h => h) | exact ⟨_, rfl, fun _ => rfl⟩ | exact ⟨_, rfl, fun h => h⟩ | refine ⟨?_, ?_⟩)); (first | done | fail))) (by ((repeat' (first | exact trivial | assumption | exact AVs.le_mono (Nat.le_of_ble_eq_true rfl) _ (by assumption) | exact Nat.le_of_ble_eq_true rfl | exact Enc.Gr.le (by assumption) _ _ | exact gr_le (by assumption) _ | exact InSl.le (by assumption) _ | refine ⟨?_, ?_⟩)); (first | done | fail))) (by ((repeat' (first | exact trivial | assumption | exact AVs.le_mono (Nat.le_of_ble_eq_true rfl) _ (by assumption) | exact Nat.le_of_ble_eq_true rfl | exact Enc.Gr.le (by assumption) _ _ | exact gr_le (by assumption) _ | exact InSl.le (by assumption) _ | refine ⟨?_, ?_⟩)); (first | done | fail))) rfl rfl (by show setNth _ 1 (AObj.cells (AVs.ren _ (cnE.of _)) _ _ _) ++ [] = _; rw [cnGr.ren]; rfl))
                        | (apply g_ret; exact rfl; exact rfl; exact Tryz.fnOk rfl; exact RetTo.frameR (hg2) [0, 1] rfl (by ((repeat' (first | exact trivial | exact fits_enc (by assumption) (fun _ => rfl) | exact fits_enc (by assumption) (fun h => h) | exact ⟨_, rfl, fun _ => rfl⟩ | exact ⟨_, rfl, fun h => h⟩ | refine ⟨?_, ?_⟩)); (first | done | fail))) (by ((repeat' (first | exact trivial | assumption | exact AVs.le_mono (Nat.le_of_ble_eq_true rfl) _ (by assumption) | exact Nat.le_of_ble_eq_true rfl | exact Enc.Gr.le (by assumption) _ _ | exact gr_le (by assumption) _ | exact InSl.le (by assumption) _ | refine ⟨?_, ?_⟩)); (first | done | fail))) (by ((repeat' (first | exact trivial | assumption | exact AVs.le_mono (Nat.le_of_ble_eq_true rfl) _ (by assumption) | exact Nat.le_of_ble_eq_true rfl | exact Enc.Gr.le (by assumption) _ _ | exact gr_le (by assumption) _ | exact InSl.le (by assumption) _ | refine ⟨?_, ?_⟩)); (first | done | fail))) rfl rfl rfl)
                        | (apply g_sum Tryz.tbOk; exact rfl; exact rfl; exact rfl; exact rfl; exact rfl; (constructor <;> omega))
                        | (apply g_rem Tryz.tbOk; exact rfl; exact rfl; exact rfl; exact rfl; (first | omega | (dsimp only; omega)))
                        | (apply g_quo Tryz.tbOk; exact rfl; exact rfl; exact rfl; exact rfl; (first | omega | (dsimp only; omega)); (constructor <;> omega))
                        | (apply g_cat; exact rfl; exact rfl; exact rfl; (first | omega | (simp; done) | (simp; omega)))
                        | (apply g_cmp Tryz.tbOk; exact rfl; exact rfl; exact rfl; exact rfl; exact rfl; intro c hc; first | (have hb := BD.yes hc (by omega); subst hb; clear hc) | (have hb := BD.no hc (by omega); subst hb; clear hc) | skip)
                        | (apply g_cmpS Tryz.tbOk; exact rfl; exact rfl; exact rfl; exact rfl; intro c hc)
                        | (apply g_eqW Tryz.tbOk Tryz.elOk; exact rfl; exact rfl; exact rfl; exact rfl; exact rfl; exact rfl; intro c hc)
                        | (apply g_conv Tryz.tbOk; exact rfl; exact rfl; exact rfl; exact rfl; exact rfl; (constructor <;> omega))
                        | (apply x_set Tryz.tbOk Tryz.elOk Tryz.xtOk; exact rfl; exact rfl)
                        | (apply x_grow Tryz.tbOk Tryz.elOk Tryz.xtOk; exact rfl; exact rfl)
                        | (apply x_store Tryz.tbOk Tryz.elOk Tryz.xtOk; exact rfl)
                        | (apply x_setN Tryz.tbOk Tryz.elOk Tryz.xtOk; exact rfl)
                        | (apply g_ixs Tryz.tbOk; exact rfl; exact rfl; exact rfl; exact rfl; exact rfl; omega)
                        | (apply g_ips Tryz.tbOk; exact rfl; exact rfl; exact rfl; exact rfl; exact rfl; exact rfl; exact rfl; (first | omega | (dsimp only; omega)))
                        | (apply g_sls Tryz.tbOk; exact rfl; exact rfl; exact rfl; exact rfl; exact rfl; exact rfl; omega)
                        | (apply g_ixg Tryz.tbOk; exact rfl; exact rfl; exact rfl; exact rfl; exact rfl; exact rfl; (first | omega | (dsimp only; omega))))
                    | refine ops_skip rfl rfl ?_
                    | refine ops_nil ?_
                    | refine then_n ?_
                    | refine f_condT rfl ?_
                    | refine f_condF rfl ?_
                    | refine f_block ?_
                    | refine f_exit ?_
                    | refine f_ret ?_
                    | refine f_skip ?_
                    | refine DrK.nil rfl ?_
                    | refine d_skip rfl rfl ?_
                    | refine d_skipN rfl ?_
                    | (apply d_load Tryz.tbOk; exact rfl; exact rfl; exact rfl; exact rfl; exact rfl; exact intE.load_cell (j := 0) hid rfl (by dsimp only; omega) (by decide) rfl)
                    | (apply d_callR; exact rfl; exact rfl; exact rfl; exact Tryz.fnOk rfl; exact fun g => RetTo.frameR (hg2) [0, 1] rfl (by ((repeat' (first | exact trivial | exact fits_enc (by assumption) (fun _ => rfl) | exact fits_enc (by assumption) (fun h => h) | exact ⟨_, rfl, fun _ => rfl⟩ | exact ⟨_, rfl, fun h => h⟩ | refine ⟨?_, ?_⟩)); (first | done | fail))) (by ((repeat' (first | exact trivial | assumption | exact AVs.le_mono (Nat.le_of_ble_eq_true rfl) _ (by assumption) | exact Nat.le_of_ble_eq_true rfl | exact Enc.Gr.le (by assumption) _ _ | exact gr_le (by assumption) _ | exact InSl.le (by assumption) _ | refine ⟨?_, ?_⟩)); (first | done | fail))) (by ((repeat' (first | exact trivial | assumption | exact AVs.le_mono (Nat.le_of_ble_eq_true rfl) _ (by assumption) | exact Nat.le_of_ble_eq_true rfl | exact Enc.Gr.le (by assumption) _ _ | exact gr_le (by assumption) _ | exact InSl.le (by assumption) _ | refine ⟨?_, ?_⟩)); (first | done | fail))) rfl rfl (List.append_nil _))
                    | (apply d_slo 0 0 0 Tryz.tbOk; exact rfl; exact rfl; exact rfl; exact rfl; exact rfl; exact rfl; exact rfl; exact rfl; exact rfl; exact rfl; omega; (rw [intE.of_length]; dsimp only; omega); omega; (dsimp only; omega); omega)
                    | (apply d_slo 1 1 0 Tryz.tbOk; exact rfl; exact rfl; exact rfl; exact rfl; exact rfl; exact rfl; exact rfl; exact rfl; exact rfl; exact rfl; omega; (rw [intE.of_length]; dsimp only; omega); omega; (dsimp only; omega); omega)
                    | (apply d_any; exact rfl; exact rfl; exact st_sum Tryz.tbOk rfl rfl rfl rfl (by constructor <;> omega))
                    | (refine d_bd rfl rfl (st_cmp Tryz.tbOk rfl rfl rfl rfl) ?_; intro c hc; first | (have hb := BD.yes hc (by omega); subst hb; clear hc) | (have hb := BD.no hc (by omega); subst hb; clear hc) | skip)
                    | (refine d_bd rfl rfl (st_cmpS Tryz.tbOk rfl rfl rfl) ?_; intro c hc)
                    | (refine d_bd rfl rfl (st_eqW Tryz.tbOk Tryz.elOk rfl rfl rfl rfl rfl) ?_; intro c hc)
                    | (apply d_set Tryz.tbOk Tryz.elOk Tryz.xtOk; exact rfl; exact rfl; exact rfl)
                    | (apply d_ips Tryz.tbOk; exact rfl; exact rfl; exact rfl; exact rfl; exact rfl; exact rfl; exact rfl; exact rfl; (first | omega | (dsimp only; omega)))
                    | (apply d_ixg Tryz.tbOk; exact rfl; exact rfl; exact rfl; exact rfl; exact rfl; exact rfl; exact rfl; (first | omega | (dsimp only; omega)))
                    | (apply d_grow Tryz.tbOk Tryz.elOk Tryz.xtOk; exact rfl; exact rfl; exact rfl)
                    | (apply d_store Tryz.tbOk Tryz.elOk Tryz.xtOk; exact rfl; exact rfl)
                    | refine then_x ?_
                    | refine then_r ?_
                    | refine blk_n ?_
                    | refine blk_eq rfl ?_
                    | refine blk_ne rfl ?_
                    | refine blk_r ?_
                    | refine loop_x ?_
                    | refine loop_r ?_
                    | refine cut_x ?_
                    | refine cut_r ?_
                    | refine body_ret rfl rfl ?_
                    | refine body_end rfl rfl ?_
                    | exact (rfl : AEnd.ret _ = AEnd.ret _)
                    | exact ⟨rfl, _, rfl⟩
                    | exact ⟨rfl, HFin.refl _⟩
                    | (rename BD _ _ => hbd; cases hbd)
                    | (rename ¬ _ = _ => hq; exact absurd rfl hq))
                  rw [← hset]
                  exact cut_n (l2, next, []) ⟨hne2, hinv2⟩ ⟨[0, 1, 2, 3], rfl, (by ((repeat' (first | exact trivial | exact rfl | assumption | exact objv_enc (by assumption) rfl | exact objv_gr (by assumption) rfl | exact get_fn rfl (by assumption) rfl | exact InSl.getr (by assumption) rfl | exact InSl.le (by assumption) _ | exact AVs.le_mono (Nat.le_of_ble_eq_true rfl) _ (by assumption) | exact Nat.le_of_ble_eq_true rfl | exact Enc.Gr.le (by assumption) _ _ | exact gr_le (by assumption) _ | refine ⟨?_, ?_⟩)); (first | done | fail))), rfl, rfl, (by ((repeat' (first | exact trivial | exact rfl | assumption | exact objv_enc (by assumption) rfl | exact objv_gr (by assumption) rfl | exact get_fn rfl (by assumption) rfl | exact InSl.getr (by assumption) rfl | exact InSl.le (by assumption) _ | exact AVs.le_mono (Nat.le_of_ble_eq_true rfl) _ (by assumption) | exact Nat.le_of_ble_eq_true rfl | exact Enc.Gr.le (by assumption) _ _ | exact gr_le (by assumption) _ | refine ⟨?_, ?_⟩)); (first | done | fail)))⟩
                | cons a2 t2 =>
                  repeat' (first
                    | refine f_seq ?_
                    | (refine f_regionL Tryz.lv3 ?_; show opsWP _ _ _ _ _ _ _ _ _)
                    | (refine f_drawL Tryz.lv3 Tryz.mixed ?_; show DrK _ _ _ _ _ _ _ _ _ _)
                    | (refine ops_go rfl ?_; first
                        | (apply g_len Tryz.tbOk; exact rfl; exact rfl; exact rfl; exact rfl; exact hlg)
                        | (apply g_loadG Tryz.tbOk; exact rfl; exact rfl; exact rfl; exact (hGG.load_cell (j := 0) hgb rfl (by dsimp only; omega) rfl))
                        | (apply g_remE ((0 : Nat) : Int) Tryz.tbOk; exact rfl; exact rfl; exact rfl; exact rfl; (first | omega | (dsimp only; omega)); exact hrem)
                        | (apply g_load Tryz.tbOk; exact rfl; exact rfl; exact rfl; exact rfl; exact intE.load_cell (j := 0) hid rfl (by dsimp only; omega) (by decide) rfl)
                        | (apply g_ret (h' := [cW (.slc 1 0 l.length (.opn 0 0)) next, aW l2, outD (a :: a2 :: t2), kO (kyOf b) true]); exact rfl; exact rfl; exact Tryz.fnOk rfl; exact RetTo.frameX hg1 [0, 1] rfl (by ((repeat' (first | exact trivial | exact fits_enc (by assumption) (fun _ => rfl) | exact fits_enc (by assumption) (fun h => h) | exact ⟨_, rfl, fun _ => rfl⟩ | exact ⟨_, rfl, fun h => h⟩ | refine ⟨?_, ?_⟩)); (first | done | fail))) (by ((repeat' (first | exact trivial | assumption | exact AVs.le_mono (Nat.le_of_ble_eq_true rfl) _ (by assumption) | exact Nat.le_of_ble_eq_true rfl | exact Enc.Gr.le (by assumption) _ _ | exact gr_le (by assumption) _ | exact InSl.le (by assumption) _ | refine ⟨?_, ?_⟩)); (first | done | fail))) (by ((repeat' (first | exact trivial | assumption | exact AVs.le_mono (Nat.le_of_ble_eq_true rfl) _ (by assumption) | exact Nat.le_of_ble_eq_true rfl | exact Enc.Gr.le (by assumption) _ _ | exact gr_le (by assumption) _ | exact InSl.le (by assumption) _ | refine ⟨?_, ?_⟩)); (first | done | fail))) rfl rfl (by show setNth _ 1 (AObj.cells (AVs.ren _ (cnE.of _)) _ _ _) ++ [] = _; rw [cnGr.ren]; rfl))
                        | (apply g_ret; exact rfl; exact rfl; exact Tryz.fnOk rfl; exact RetTo.frameR (hg2) [0, 1] rfl (by ((repeat' (first | exact trivial | exact fits_enc (by assumption) (fun _ => rfl) | exact fits_enc (by assumption) (fun h => h) | exact ⟨_, rfl, fun _ => rfl⟩ | exact ⟨_, rfl, fun h => h⟩ | refine ⟨?_, ?_⟩)); (first | done | fail))) (by ((repeat' (first | exact trivial | assumption | exact AVs.le_mono (Nat.le_of_ble_eq_true rfl) _ (by assumption) | exact Nat.le_of_ble_eq_true rfl | exact Enc.Gr.le (by assumption) _ _ | exact gr_le (by assumption) _ | exact InSl.le (by assumption) _ | refine ⟨?_, ?_⟩)); (first | done | fail))) (by ((repeat' (first | exact trivial | assumption | exact AVs.le_mono (Nat.le_of_ble_eq_true rfl) _ (by assumption) | exact Nat.le_of_ble_eq_true rfl | exact Enc.Gr.le (by assumption) _ _ | exact gr_le (by assumption) _ | exact InSl.le (by assumption) _ | refine ⟨?_, ?_⟩)); (first | done | fail))) rfl rfl rfl)
                        | (apply g_sum Tryz.tbOk; exact rfl; exact rfl; exact rfl; exact rfl; exact rfl; (constructor <;> omega))
                        | (apply g_rem Tryz.tbOk; exact rfl; exact rfl; exact rfl; exact rfl; (first | omega | (dsimp only; omega)))
                        | (apply g_quo Tryz.tbOk; exact rfl; exact rfl; exact rfl; exact rfl; (first | omega | (dsimp only; omega)); (constructor <;> omega))
                        | (apply g_cat; exact rfl; exact rfl; exact rfl; (first | omega | (simp; done) | (simp; omega)))
                        | (apply g_cmp Tryz.tbOk; exact rfl; exact rfl; exact rfl; exact rfl; exact rfl; intro c hc; first | (have hb := BD.yes hc (by omega); subst hb; clear hc) | (have hb := BD.no hc (by omega); subst hb; clear hc) | skip)
                        | (apply g_cmpS Tryz.tbOk; exact rfl; exact rfl; exact rfl; exact rfl; intro c hc)
                        | (apply g_eqW Tryz.tbOk Tryz.elOk; exact rfl; exact rfl; exact rfl; exact rfl; exact rfl; exact rfl; intro c hc)
                        | (apply g_conv Tryz.tbOk; exact rfl; exact rfl; exact rfl; exact rfl; exact rfl; (constructor <;> omega))
                        | (apply x_set Tryz.tbOk Tryz.elOk Tryz.xtOk; exact rfl; exact rfl)
                        | (apply x_grow Tryz.tbOk Tryz.elOk Tryz.xtOk; exact rfl; exact rfl)
                        | (apply x_store Tryz.tbOk Tryz.elOk Tryz.xtOk; exact rfl)
                        | (apply x_setN Tryz.tbOk Tryz.elOk Tryz.xtOk; exact rfl)
                        | (apply g_ixs Tryz.tbOk; exact rfl; exact rfl; exact rfl; exact rfl; exact rfl; omega)
                        | (apply g_ips Tryz.tbOk; exact rfl; exact rfl; exact rfl; exact rfl; exact rfl; exact rfl; exact rfl; (first | omega | (dsimp only; omega)))
                        | (apply g_sls Tryz.tbOk; exact rfl; exact rfl; exact rfl; exact rfl; exact rfl; exact rfl; omega)
                        | (apply g_ixg Tryz.tbOk; exact rfl; exact rfl; exact rfl; exact rfl; exact rfl; exact rfl; (first | omega | (dsimp only; omega))))
                    | refine ops_skip rfl rfl ?_
                    | refine ops_nil ?_
                    | refine then_n ?_
                    | refine f_condT rfl ?_
                    | refine f_condF rfl ?_
                    | refine f_block ?_
                    | refine f_exit ?_
                    | refine f_ret ?_
                    | refine f_skip ?_
                    | refine DrK.nil rfl ?_
                    | refine d_skip rfl rfl ?_
                    | refine d_skipN rfl ?_
                    | (apply d_load Tryz.tbOk; exact rfl; exact rfl; exact rfl; exact rfl; exact rfl; exact intE.load_cell (j := 0) hid rfl (by dsimp only; omega) (by decide) rfl)
                    | (apply d_callR; exact rfl; exact rfl; exact rfl; exact Tryz.fnOk rfl; exact fun g => RetTo.frameR (hg2) [0, 1] rfl (by ((repeat' (first | exact trivial | exact fits_enc (by assumption) (fun _ => rfl) | exact fits_enc (by assumption) (fun h => h) | exact ⟨_, rfl, fun _ => rfl⟩ | exact ⟨_, rfl, fun h => h⟩ | refine ⟨?_, ?_⟩)); (first | done | fail))) (by ((repeat' (first | exact trivial | assumption | exact AVs.le_mono (Nat.le_of_ble_eq_true rfl) _ (by assumption) | exact Nat.le_of_ble_eq_true rfl | exact Enc.Gr.le (by assumption) _ _ | exact gr_le (by assumption) _ | exact InSl.le (by assumption) _ | refine ⟨?_, ?_⟩)); (first | done | fail))) (by ((repeat' (first | exact trivial | assumption | exact AVs.le_mono (Nat.le_of_ble_eq_true rfl) _ (by assumption) | exact Nat.le_of_ble_eq_true rfl | exact Enc.Gr.le (by assumption) _ _ | exact gr_le (by assumption) _ | exact InSl.le (by assumption) _ | refine ⟨?_, ?_⟩)); (first | done | fail))) rfl rfl (List.append_nil _))
                    | (apply d_slo 0 0 0 Tryz.tbOk; exact rfl; exact rfl; exact rfl; exact rfl; exact rfl; exact rfl; exact rfl; exact rfl; exact rfl; exact rfl; omega; (rw [intE.of_length]; dsimp only; omega); omega; (dsimp only; omega); omega)
                    | (apply d_slo 1 1 (a2 :: t2).length Tryz.tbOk; exact rfl; exact rfl; exact rfl; exact rfl; exact rfl; exact rfl; exact rfl; exact rfl; exact rfl; exact rfl; omega; (rw [intE.of_length]; dsimp only; omega); omega; (dsimp only; omega); omega)
                    | (apply d_appN Tryz.tbOk; exact rfl; exact rfl; exact rfl; exact rfl; exact rfl; exact rfl; exact ((intE.src (i := 1) (l := a :: a2 :: t2) (len := (a2 :: t2).length) (atOk_opn rfl rfl rfl rfl (fun _ => ⟨by decide, by rw [intE.of_length]; simp; omega⟩)) rfl rfl (by simp; omega)).trans (by rw [List.drop_succ_cons, List.drop_zero, List.take_length])); simp; (constructor <;> (simp only [List.length_cons] at *; omega)))
                    | (apply d_any; exact rfl; exact rfl; exact st_sum Tryz.tbOk rfl rfl rfl rfl (by constructor <;> omega))
                    | (refine d_bd rfl rfl (st_cmp Tryz.tbOk rfl rfl rfl rfl) ?_; intro c hc; first | (have hb := BD.yes hc (by omega); subst hb; clear hc) | (have hb := BD.no hc (by omega); subst hb; clear hc) | skip)
                    | (refine d_bd rfl rfl (st_cmpS Tryz.tbOk rfl rfl rfl) ?_; intro c hc)
                    | (refine d_bd rfl rfl (st_eqW Tryz.tbOk Tryz.elOk rfl rfl rfl rfl rfl) ?_; intro c hc)
                    | (apply d_set Tryz.tbOk Tryz.elOk Tryz.xtOk; exact rfl; exact rfl; exact rfl)
                    | (apply d_ips Tryz.tbOk; exact rfl; exact rfl; exact rfl; exact rfl; exact rfl; exact rfl; exact rfl; exact rfl; (first | omega | (dsimp only; omega)))
                    | (apply d_ixg Tryz.tbOk; exact rfl; exact rfl; exact rfl; exact rfl; exact rfl; exact rfl; exact rfl; (first | omega | (dsimp only; omega)))
                    | (apply d_grow Tryz.tbOk Tryz.elOk Tryz.xtOk; exact rfl; exact rfl; exact rfl)
                    | (apply d_store Tryz.tbOk Tryz.elOk Tryz.xtOk; exact rfl; exact rfl)
                    | refine then_x ?_
                    | refine then_r ?_
                    | refine blk_n ?_
                    | refine blk_eq rfl ?_
                    | refine blk_ne rfl ?_
                    | refine blk_r ?_
                    | refine loop_x ?_
                    | refine loop_r ?_
                    | refine cut_x ?_
                    | refine cut_r ?_
                    | refine body_ret rfl rfl ?_
                    | refine body_end rfl rfl ?_
                    | exact (rfl : AEnd.ret _ = AEnd.ret _)
                    | exact ⟨rfl, _, rfl⟩
                    | exact ⟨rfl, HFin.refl _⟩
                    | (rename BD _ _ => hbd; cases hbd)
                    | (rename ¬ _ = _ => hq; exact absurd rfl hq))
                  rw [← hset]
                  exact cut_n (l2, next, a2 :: t2) ⟨hne2, hinv2⟩ ⟨[0, 1, 4, 3], rfl, (by ((repeat' (first | exact trivial | exact rfl | assumption | exact objv_enc (by assumption) rfl | exact objv_gr (by assumption) rfl | exact get_fn rfl (by assumption) rfl | exact InSl.getr (by assumption) rfl | exact InSl.le (by assumption) _ | exact AVs.le_mono (Nat.le_of_ble_eq_true rfl) _ (by assumption) | exact Nat.le_of_ble_eq_true rfl | exact Enc.Gr.le (by assumption) _ _ | exact gr_le (by assumption) _ | refine ⟨?_, ?_⟩)); (first | done | fail))), rfl, rfl, (by ((repeat' (first | exact trivial | exact rfl | assumption | exact objv_enc (by assumption) rfl | exact objv_gr (by assumption) rfl | exact get_fn rfl (by assumption) rfl | exact InSl.getr (by assumption) rfl | exact InSl.le (by assumption) _ | exact AVs.le_mono (Nat.le_of_ble_eq_true rfl) _ (by assumption) | exact Nat.le_of_ble_eq_true rfl | exact Enc.Gr.le (by assumption) _ _ | exact gr_le (by assumption) _ | refine ⟨?_, ?_⟩)); (first | done | fail)))⟩
              | succ m =>
                rcases Nat.lt_or_ge (m + 1 + 1) (a :: t).length with hm2 | hm2
                · repeat' (first
                    | refine f_seq ?_
                    | (refine f_regionL Tryz.lv3 ?_; show opsWP _ _ _ _ _ _ _ _ _)
                    | (refine f_drawL Tryz.lv3 Tryz.mixed ?_; show DrK _ _ _ _ _ _ _ _ _ _)
                    | (refine ops_go rfl ?_; first
                        | (apply g_len Tryz.tbOk; exact rfl; exact rfl; exact rfl; exact rfl; exact hlg)
                        | (apply g_loadG Tryz.tbOk; exact rfl; exact rfl; exact rfl; exact (hGG.load_cell (j := 0) hgb rfl (by dsimp only; omega) rfl))
                        | (apply g_remE (((m + 1 : Nat)) : Int) Tryz.tbOk; exact rfl; exact rfl; exact rfl; exact rfl; (first | omega | (dsimp only; omega)); exact hrem)
                        | (apply g_load Tryz.tbOk; exact rfl; exact rfl; exact rfl; exact rfl; exact intE.load_cell (j := 0) hid rfl (by dsimp only; omega) (by decide) rfl)
                        | (apply g_ret (h' := [cW (.slc 1 0 l.length (.opn 0 0)) next, aW l2, outD (a :: t), kO (kyOf b) true]); exact rfl; exact rfl; exact Tryz.fnOk rfl; exact RetTo.frameX hg1 [0, 1] rfl (by ((repeat' (first | exact trivial | exact fits_enc (by assumption) (fun _ => rfl) | exact fits_enc (by assumption) (fun h => h) | exact ⟨_, rfl, fun _ => rfl⟩ | exact ⟨_, rfl, fun h => h⟩ | refine ⟨?_, ?_⟩)); (first | done | fail))) (by ((repeat' (first | exact trivial | assumption | exact AVs.le_mono (Nat.le_of_ble_eq_true rfl) _ (by assumption) | exact Nat.le_of_ble_eq_true rfl | exact Enc.Gr.le (by assumption) _ _ | exact gr_le (by assumption) _ | exact InSl.le (by assumption) _ | refine ⟨?_, ?_⟩)); (first | done | fail))) (by ((repeat' (first | exact trivial | assumption | exact AVs.le_mono (Nat.le_of_ble_eq_true rfl) _ (by assumption) | exact Nat.le_of_ble_eq_true rfl | exact Enc.Gr.le (by assumption) _ _ | exact gr_le (by assumption) _ | exact InSl.le (by assumption) _ | refine ⟨?_, ?_⟩)); (first | done | fail))) rfl rfl (by show setNth _ 1 (AObj.cells (AVs.ren _ (cnE.of _)) _ _ _) ++ [] = _; rw [cnGr.ren]; rfl))
                        | (apply g_ret; exact rfl; exact rfl; exact Tryz.fnOk rfl; exact RetTo.frameR (hg2) [0, 1] rfl (by ((repeat' (first | exact trivial | exact fits_enc (by assumption) (fun _ => rfl) | exact fits_enc (by assumption) (fun h => h) | exact ⟨_, rfl, fun _ => rfl⟩ | exact ⟨_, rfl, fun h => h⟩ | refine ⟨?_, ?_⟩)); (first | done | fail))) (by ((repeat' (first | exact trivial | assumption | exact AVs.le_mono (Nat.le_of_ble_eq_true rfl) _ (by assumption) | exact Nat.le_of_ble_eq_true rfl | exact Enc.Gr.le (by assumption) _ _ | exact gr_le (by assumption) _ | exact InSl.le (by assumption) _ | refine ⟨?_, ?_⟩)); (first | done | fail))) (by ((repeat' (first | exact trivial | assumption | exact AVs.le_mono (Nat.le_of_ble_eq_true rfl) _ (by assumption) | exact Nat.le_of_ble_eq_true rfl | exact Enc.Gr.le (by assumption) _ _ | exact gr_le (by assumption) _ | exact InSl.le (by assumption) _ | refine ⟨?_, ?_⟩)); (first | done | fail))) rfl rfl rfl)
                        | (apply g_sum Tryz.tbOk; exact rfl; exact rfl; exact rfl; exact rfl; exact rfl; (constructor <;> omega))
                        | (apply g_rem Tryz.tbOk; exact rfl; exact rfl; exact rfl; exact rfl; (first | omega | (dsimp only; omega)))
                        | (apply g_quo Tryz.tbOk; exact rfl; exact rfl; exact rfl; exact rfl; (first | omega | (dsimp only; omega)); (constructor <;> omega))
                        | (apply g_cat; exact rfl; exact rfl; exact rfl; (first | omega | (simp; done) | (simp; omega)))
                        | (apply g_cmp Tryz.tbOk; exact rfl; exact rfl; exact rfl; exact rfl; exact rfl; intro c hc; first | (have hb := BD.yes hc (by omega); subst hb; clear hc) | (have hb := BD.no hc (by omega); subst hb; clear hc) | skip)
                        | (apply g_cmpS Tryz.tbOk; exact rfl; exact rfl; exact rfl; exact rfl; intro c hc)
                        | (apply g_eqW Tryz.tbOk Tryz.elOk; exact rfl; exact rfl; exact rfl; exact rfl; exact rfl; exact rfl; intro c hc)
                        | (apply g_conv Tryz.tbOk; exact rfl; exact rfl; exact rfl; exact rfl; exact rfl; (constructor <;> omega))
                        | (apply x_set Tryz.tbOk Tryz.elOk Tryz.xtOk; exact rfl; exact rfl)
                        | (apply x_grow Tryz.tbOk Tryz.elOk Tryz.xtOk; exact rfl; exact rfl)
                        | (apply x_store Tryz.tbOk Tryz.elOk Tryz.xtOk; exact rfl)
                        | (apply x_setN Tryz.tbOk Tryz.elOk Tryz.xtOk; exact rfl)
                        | (apply g_ixs Tryz.tbOk; exact rfl; exact rfl; exact rfl; exact rfl; exact rfl; omega)
                        | (apply g_ips Tryz.tbOk; exact rfl; exact rfl; exact rfl; exact rfl; exact rfl; exact rfl; exact rfl; (first | omega | (dsimp only; omega)))
                        | (apply g_sls Tryz.tbOk; exact rfl; exact rfl; exact rfl; exact rfl; exact rfl; exact rfl; omega)
                        | (apply g_ixg Tryz.tbOk; exact rfl; exact rfl; exact rfl; exact rfl; exact rfl; exact rfl; (first | omega | (dsimp only; omega))))
                    | refine ops_skip rfl rfl ?_
                    | refine ops_nil ?_
                    | refine then_n ?_
                    | refine f_condT rfl ?_
                    | refine f_condF rfl ?_
                    | refine f_block ?_
                    | refine f_exit ?_
                    | refine f_ret ?_
                    | refine f_skip ?_
                    | refine DrK.nil rfl ?_
                    | refine d_skip rfl rfl ?_
                    | refine d_skipN rfl ?_
                    | (apply d_load Tryz.tbOk; exact rfl; exact rfl; exact rfl; exact rfl; exact rfl; exact intE.load_cell (j := 0) hid rfl (by dsimp only; omega) (by decide) rfl)
                    | (apply d_callR; exact rfl; exact rfl; exact rfl; exact Tryz.fnOk rfl; exact fun g => RetTo.frameR (hg2) [0, 1] rfl (by ((repeat' (first | exact trivial | exact fits_enc (by assumption) (fun _ => rfl) | exact fits_enc (by assumption) (fun h => h) | exact ⟨_, rfl, fun _ => rfl⟩ | exact ⟨_, rfl, fun h => h⟩ | refine ⟨?_, ?_⟩)); (first | done | fail))) (by ((repeat' (first | exact trivial | assumption | exact AVs.le_mono (Nat.le_of_ble_eq_true rfl) _ (by assumption) | exact Nat.le_of_ble_eq_true rfl | exact Enc.Gr.le (by assumption) _ _ | exact gr_le (by assumption) _ | exact InSl.le (by assumption) _ | refine ⟨?_, ?_⟩)); (first | done | fail))) (by ((repeat' (first | exact trivial | assumption | exact AVs.le_mono (Nat.le_of_ble_eq_true rfl) _ (by assumption) | exact Nat.le_of_ble_eq_true rfl | exact Enc.Gr.le (by assumption) _ _ | exact gr_le (by assumption) _ | exact InSl.le (by assumption) _ | refine ⟨?_, ?_⟩)); (first | done | fail))) rfl rfl (List.append_nil _))
                    | (apply d_slo 0 0 (m + 1) Tryz.tbOk; exact rfl; exact rfl; exact rfl; exact rfl; exact rfl; exact rfl; exact rfl; exact rfl; exact rfl; exact rfl; omega; (rw [intE.of_length]; dsimp only; omega); omega; (dsimp only; omega); omega)
                    | (apply d_slo (m + 1 + 1) (m + 1 + 1) ((a :: t).length - (m + 1 + 1)) Tryz.tbOk; exact rfl; exact rfl; exact rfl; exact rfl; exact rfl; exact rfl; exact rfl; exact rfl; exact rfl; exact rfl; omega; (rw [intE.of_length]; dsimp only; omega); omega; (dsimp only; omega); omega)
                    | (apply d_appN Tryz.tbOk; exact rfl; exact rfl; exact rfl; exact rfl; exact rfl; exact rfl; exact (intE.src (i := 0) (l := a :: t) (len := m + 1) rfl rfl rfl (by omega)); simp; (constructor <;> (first | omega | (dsimp only; omega))))
                    | (apply d_app1 (a :: (t.take m ++ t.drop (m + 1))).length Tryz.tbOk; exact rfl; exact rfl; exact rfl; exact rfl; exact rfl; exact rfl; exact rfl; exact (intE.src (i := m + 1 + 1) (l := a :: t) (len := (a :: t).length - (m + 1 + 1)) (atOk_opn rfl rfl rfl (Nat.mul_one _).symm (fun _ => ⟨by decide, by rw [intE.of_length]; omega⟩)) rfl (Nat.mul_one _).symm (by omega)); exact intOne.of _; exact (by rw [intE.of_length, List.drop_zero, List.length_take]; dsimp only; omega); (first | omega | (dsimp only; omega)); exact give_cat a t m; exact (by simp only [List.length_cons, List.length_append, List.length_take, List.length_drop] at *; omega))
                    | (apply d_any; exact rfl; exact rfl; exact st_sum Tryz.tbOk rfl rfl rfl rfl (by constructor <;> omega))
                    | (refine d_bd rfl rfl (st_cmp Tryz.tbOk rfl rfl rfl rfl) ?_; intro c hc; first | (have hb := BD.yes hc (by omega); subst hb; clear hc) | (have hb := BD.no hc (by omega); subst hb; clear hc) | skip)
                    | (refine d_bd rfl rfl (st_cmpS Tryz.tbOk rfl rfl rfl) ?_; intro c hc)
                    | (refine d_bd rfl rfl (st_eqW Tryz.tbOk Tryz.elOk rfl rfl rfl rfl rfl) ?_; intro c hc)
                    | (apply d_set Tryz.tbOk Tryz.elOk Tryz.xtOk; exact rfl; exact rfl; exact rfl)
                    | (apply d_ips Tryz.tbOk; exact rfl; exact rfl; exact rfl; exact rfl; exact rfl; exact rfl; exact rfl; exact rfl; (first | omega | (dsimp only; omega)))
                    | (apply d_ixg Tryz.tbOk; exact rfl; exact rfl; exact rfl; exact rfl; exact rfl; exact rfl; exact rfl; (first | omega | (dsimp only; omega)))
                    | (apply d_grow Tryz.tbOk Tryz.elOk Tryz.xtOk; exact rfl; exact rfl; exact rfl)
                    | (apply d_store Tryz.tbOk Tryz.elOk Tryz.xtOk; exact rfl; exact rfl)
                    | refine then_x ?_
                    | refine then_r ?_
                    | refine blk_n ?_
                    | refine blk_eq rfl ?_
                    | refine blk_ne rfl ?_
                    | refine blk_r ?_
                    | refine loop_x ?_
                    | refine loop_r ?_
                    | refine cut_x ?_
                    | refine cut_r ?_
                    | refine body_ret rfl rfl ?_
                    | refine body_end rfl rfl ?_
                    | exact (rfl : AEnd.ret _ = AEnd.ret _)
                    | exact ⟨rfl, _, rfl⟩
                    | exact ⟨rfl, HFin.refl _⟩
                    | (rename BD _ _ => hbd; cases hbd)
                    | (rename ¬ _ = _ => hq; exact absurd rfl hq))
                  rw [← hset]
                  exact cut_n (l2, next, a :: (t.take m ++ t.drop (m + 1))) ⟨hne2, hinv2⟩ ⟨[0, 1, 5, 3], rfl, (by ((repeat' (first | exact trivial | exact rfl | assumption | exact objv_enc (by assumption) rfl | exact objv_gr (by assumption) rfl | exact get_fn rfl (by assumption) rfl | exact InSl.getr (by assumption) rfl | exact InSl.le (by assumption) _ | exact AVs.le_mono (Nat.le_of_ble_eq_true rfl) _ (by assumption) | exact Nat.le_of_ble_eq_true rfl | exact Enc.Gr.le (by assumption) _ _ | exact gr_le (by assumption) _ | refine ⟨?_, ?_⟩)); (first | done | fail))), rfl, rfl, (by ((repeat' (first | exact trivial | exact rfl | assumption | exact objv_enc (by assumption) rfl | exact objv_gr (by assumption) rfl | exact get_fn rfl (by assumption) rfl | exact InSl.getr (by assumption) rfl | exact InSl.le (by assumption) _ | exact AVs.le_mono (Nat.le_of_ble_eq_true rfl) _ (by assumption) | exact Nat.le_of_ble_eq_true rfl | exact Enc.Gr.le (by assumption) _ _ | exact gr_le (by assumption) _ | refine ⟨?_, ?_⟩)); (first | done | fail)))⟩
                · repeat' (first
                    | refine f_seq ?_
                    | (refine f_regionL Tryz.lv3 ?_; show opsWP _ _ _ _ _ _ _ _ _)
                    | (refine f_drawL Tryz.lv3 Tryz.mixed ?_; show DrK _ _ _ _ _ _ _ _ _ _)
                    | (refine ops_go rfl ?_; first
                        | (apply g_len Tryz.tbOk; exact rfl; exact rfl; exact rfl; exact rfl; exact hlg)
                        | (apply g_loadG Tryz.tbOk; exact rfl; exact rfl; exact rfl; exact (hGG.load_cell (j := 0) hgb rfl (by dsimp only; omega) rfl))
                        | (apply g_remE (((m + 1 : Nat)) : Int) Tryz.tbOk; exact rfl; exact rfl; exact rfl; exact rfl; (first | omega | (dsimp only; omega)); exact hrem)
                        | (apply g_load Tryz.tbOk; exact rfl; exact rfl; exact rfl; exact rfl; exact intE.load_cell (j := 0) hid rfl (by dsimp only; omega) (by decide) rfl)
                        | (apply g_ret (h' := [cW (.slc 1 0 l.length (.opn 0 0)) next, aW l2, outD (a :: t), kO (kyOf b) true]); exact rfl; exact rfl; exact Tryz.fnOk rfl; exact RetTo.frameX hg1 [0, 1] rfl (by ((repeat' (first | exact trivial | exact fits_enc (by assumption) (fun _ => rfl) | exact fits_enc (by assumption) (fun h => h) | exact ⟨_, rfl, fun _ => rfl⟩ | exact ⟨_, rfl, fun h => h⟩ | refine ⟨?_, ?_⟩)); (first | done | fail))) (by ((repeat' (first | exact trivial | assumption | exact AVs.le_mono (Nat.le_of_ble_eq_true rfl) _ (by assumption) | exact Nat.le_of_ble_eq_true rfl | exact Enc.Gr.le (by assumption) _ _ | exact gr_le (by assumption) _ | exact InSl.le (by assumption) _ | refine ⟨?_, ?_⟩)); (first | done | fail))) (by ((repeat' (first | exact trivial | assumption | exact AVs.le_mono (Nat.le_of_ble_eq_true rfl) _ (by assumption) | exact Nat.le_of_ble_eq_true rfl | exact Enc.Gr.le (by assumption) _ _ | exact gr_le (by assumption) _ | exact InSl.le (by assumption) _ | refine ⟨?_, ?_⟩)); (first | done | fail))) rfl rfl (by show setNth _ 1 (AObj.cells (AVs.ren _ (cnE.of _)) _ _ _) ++ [] = _; rw [cnGr.ren]; rfl))
                        | (apply g_ret; exact rfl; exact rfl; exact Tryz.fnOk rfl; exact RetTo.frameR (hg2) [0, 1] rfl (by ((repeat' (first | exact trivial | exact fits_enc (by assumption) (fun _ => rfl) | exact fits_enc (by assumption) (fun h => h) | exact ⟨_, rfl, fun _ => rfl⟩ | exact ⟨_, rfl, fun h => h⟩ | refine ⟨?_, ?_⟩)); (first | done | fail))) (by ((repeat' (first | exact trivial | assumption | exact AVs.le_mono (Nat.le_of_ble_eq_true rfl) _ (by assumption) | exact Nat.le_of_ble_eq_true rfl | exact Enc.Gr.le (by assumption) _ _ | exact gr_le (by assumption) _ | exact InSl.le (by assumption) _ | refine ⟨?_, ?_⟩)); (first | done | fail))) (by ((repeat' (first | exact trivial | assumption | exact AVs.le_mono (Nat.le_of_ble_eq_true rfl) _ (by assumption) | exact Nat.le_of_ble_eq_true rfl | exact Enc.Gr.le (by assumption) _ _ | exact gr_le (by assumption) _ | exact InSl.le (by assumption) _ | refine ⟨?_, ?_⟩)); (first | done | fail))) rfl rfl rfl)
                        | (apply g_sum Tryz.tbOk; exact rfl; exact rfl; exact rfl; exact rfl; exact rfl; (constructor <;> omega))
                        | (apply g_rem Tryz.tbOk; exact rfl; exact rfl; exact rfl; exact rfl; (first | omega | (dsimp only; omega)))
                        | (apply g_quo Tryz.tbOk; exact rfl; exact rfl; exact rfl; exact rfl; (first | omega | (dsimp only; omega)); (constructor <;> omega))
                        | (apply g_cat; exact rfl; exact rfl; exact rfl; (first | omega | (simp; done) | (simp; omega)))
                        | (apply g_cmp Tryz.tbOk; exact rfl; exact rfl; exact rfl; exact rfl; exact rfl; intro c hc; first | (have hb := BD.yes hc (by omega); subst hb; clear hc) | (have hb := BD.no hc (by omega); subst hb; clear hc) | skip)
                        | (apply g_cmpS Tryz.tbOk; exact rfl; exact rfl; exact rfl; exact rfl; intro c hc)
                        | (apply g_eqW Tryz.tbOk Tryz.elOk; exact rfl; exact rfl; exact rfl; exact rfl; exact rfl; exact rfl; intro c hc)
                        | (apply g_conv Tryz.tbOk; exact rfl; exact rfl; exact rfl; exact rfl; exact rfl; (constructor <;> omega))
                        | (apply x_set Tryz.tbOk Tryz.elOk Tryz.xtOk; exact rfl; exact rfl)
                        | (apply x_grow Tryz.tbOk Tryz.elOk Tryz.xtOk; exact rfl; exact rfl)
                        | (apply x_store Tryz.tbOk Tryz.elOk Tryz.xtOk; exact rfl)
                        | (apply x_setN Tryz.tbOk Tryz.elOk Tryz.xtOk; exact rfl)
                        | (apply g_ixs Tryz.tbOk; exact rfl; exact rfl; exact rfl; exact rfl; exact rfl; omega)
                        | (apply g_ips Tryz.tbOk; exact rfl; exact rfl; exact rfl; exact rfl; exact rfl; exact rfl; exact rfl; (first | omega | (dsimp only; omega)))
                        | (apply g_sls Tryz.tbOk; exact rfl; exact rfl; exact rfl; exact rfl; exact rfl; exact rfl; omega)
                        | (apply g_ixg Tryz.tbOk; exact rfl; exact rfl; exact rfl; exact rfl; exact rfl; exact rfl; (first | omega | (dsimp only; omega))))
                    | refine ops_skip rfl rfl ?_
                    | refine ops_nil ?_
                    | refine then_n ?_
                    | refine f_condT rfl ?_
                    | refine f_condF rfl ?_
                    | refine f_block ?_
                    | refine f_exit ?_
                    | refine f_ret ?_
                    | refine f_skip ?_
                    | refine DrK.nil rfl ?_
                    | refine d_skip rfl rfl ?_
                    | refine d_skipN rfl ?_
                    | (apply d_load Tryz.tbOk; exact rfl; exact rfl; exact rfl; exact rfl; exact rfl; exact intE.load_cell (j := 0) hid rfl (by dsimp only; omega) (by decide) rfl)
                    | (apply d_callR; exact rfl; exact rfl; exact rfl; exact Tryz.fnOk rfl; exact fun g => RetTo.frameR (hg2) [0, 1] rfl (by ((repeat' (first | exact trivial | exact fits_enc (by assumption) (fun _ => rfl) | exact fits_enc (by assumption) (fun h => h) | exact ⟨_, rfl, fun _ => rfl⟩ | exact ⟨_, rfl, fun h => h⟩ | refine ⟨?_, ?_⟩)); (first | done | fail))) (by ((repeat' (first | exact trivial | assumption | exact AVs.le_mono (Nat.le_of_ble_eq_true rfl) _ (by assumption) | exact Nat.le_of_ble_eq_true rfl | exact Enc.Gr.le (by assumption) _ _ | exact gr_le (by assumption) _ | exact InSl.le (by assumption) _ | refine ⟨?_, ?_⟩)); (first | done | fail))) (by ((repeat' (first | exact trivial | assumption | exact AVs.le_mono (Nat.le_of_ble_eq_true rfl) _ (by assumption) | exact Nat.le_of_ble_eq_true rfl | exact Enc.Gr.le (by assumption) _ _ | exact gr_le (by assumption) _ | exact InSl.le (by assumption) _ | refine ⟨?_, ?_⟩)); (first | done | fail))) rfl rfl (List.append_nil _))
                    | (apply d_slo 0 0 (m + 1) Tryz.tbOk; exact rfl; exact rfl; exact rfl; exact rfl; exact rfl; exact rfl; exact rfl; exact rfl; exact rfl; exact rfl; omega; (rw [intE.of_length]; dsimp only; omega); omega; (dsimp only; omega); omega)
                    | (apply d_slo (m + 1 + 1) (m + 1 + 1) ((a :: t).length - (m + 1 + 1)) Tryz.tbOk; exact rfl; exact rfl; exact rfl; exact rfl; exact rfl; exact rfl; exact rfl; exact rfl; exact rfl; exact rfl; omega; (rw [intE.of_length]; dsimp only; omega); omega; (dsimp only; omega); omega)
                    | (apply d_appN Tryz.tbOk; exact rfl; exact rfl; exact rfl; exact rfl; exact rfl; exact rfl; exact (intE.src (i := 0) (l := a :: t) (len := m + 1) rfl rfl rfl (by omega)); simp; (constructor <;> (first | omega | (dsimp only; omega))))
                    | (apply d_app1 (a :: (t.take m ++ t.drop (m + 1))).length Tryz.tbOk; exact rfl; exact rfl; exact rfl; exact rfl; exact rfl; exact rfl; exact rfl; exact (intE.src (i := m + 1 + 1) (l := a :: t) (len := (a :: t).length - (m + 1 + 1)) (atOk_opn rfl rfl rfl (Nat.mul_one _).symm (fun _ => ⟨by decide, by rw [intE.of_length]; omega⟩)) rfl (Nat.mul_one _).symm (by omega)); exact intOne.of _; exact (by rw [intE.of_length, List.drop_zero, List.length_take]; dsimp only; omega); (first | omega | (dsimp only; omega)); exact give_cat a t m; exact (by simp only [List.length_cons, List.length_append, List.length_take, List.length_drop] at *; omega))
                    | (apply d_any; exact rfl; exact rfl; exact st_sum Tryz.tbOk rfl rfl rfl rfl (by constructor <;> omega))
                    | (refine d_bd rfl rfl (st_cmp Tryz.tbOk rfl rfl rfl rfl) ?_; intro c hc; first | (have hb := BD.yes hc (by omega); subst hb; clear hc) | (have hb := BD.no hc (by omega); subst hb; clear hc) | skip)
                    | (refine d_bd rfl rfl (st_cmpS Tryz.tbOk rfl rfl rfl) ?_; intro c hc)
                    | (refine d_bd rfl rfl (st_eqW Tryz.tbOk Tryz.elOk rfl rfl rfl rfl rfl) ?_; intro c hc)
                    | (apply d_set Tryz.tbOk Tryz.elOk Tryz.xtOk; exact rfl; exact rfl; exact rfl)
                    | (apply d_ips Tryz.tbOk; exact rfl; exact rfl; exact rfl; exact rfl; exact rfl; exact rfl; exact rfl; exact rfl; (first | omega | (dsimp only; omega)))
                    | (apply d_ixg Tryz.tbOk; exact rfl; exact rfl; exact rfl; exact rfl; exact rfl; exact rfl; exact rfl; (first | omega | (dsimp only; omega)))
                    | (apply d_grow Tryz.tbOk Tryz.elOk Tryz.xtOk; exact rfl; exact rfl; exact rfl)
                    | (apply d_store Tryz.tbOk Tryz.elOk Tryz.xtOk; exact rfl; exact rfl)
                    | refine then_x ?_
                    | refine then_r ?_
                    | refine blk_n ?_
                    | refine blk_eq rfl ?_
                    | refine blk_ne rfl ?_
                    | refine blk_r ?_
                    | refine loop_x ?_
                    | refine loop_r ?_
                    | refine cut_x ?_
                    | refine cut_r ?_
                    | refine body_ret rfl rfl ?_
                    | refine body_end rfl rfl ?_
                    | exact (rfl : AEnd.ret _ = AEnd.ret _)
                    | exact ⟨rfl, _, rfl⟩
                    | exact ⟨rfl, HFin.refl _⟩
                    | (rename BD _ _ => hbd; cases hbd)
                    | (rename ¬ _ = _ => hq; exact absurd rfl hq))
                  rw [← hset]
                  exact cut_n (l2, next, a :: (t.take m ++ t.drop (m + 1))) ⟨hne2, hinv2⟩ ⟨[0, 1, 5, 3], rfl, (by ((repeat' (first | exact trivial | exact rfl | assumption | exact objv_enc (by assumption) rfl | exact objv_gr (by assumption) rfl | exact get_fn rfl (by assumption) rfl | exact InSl.getr (by assumption) rfl | exact InSl.le (by assumption) _ | exact AVs.le_mono (Nat.le_of_ble_eq_true rfl) _ (by assumption) | exact Nat.le_of_ble_eq_true rfl | exact Enc.Gr.le (by assumption) _ _ | exact gr_le (by assumption) _ | refine ⟨?_, ?_⟩)); (first | done | fail))), rfl, rfl, (by ((repeat' (first | exact trivial | exact rfl | assumption | exact objv_enc (by assumption) rfl | exact objv_gr (by assumption) rfl | exact get_fn rfl (by assumption) rfl | exact InSl.getr (by assumption) rfl | exact InSl.le (by assumption) _ | exact AVs.le_mono (Nat.le_of_ble_eq_true rfl) _ (by assumption) | exact Nat.le_of_ble_eq_true rfl | exact Enc.Gr.le (by assumption) _ _ | exact gr_le (by assumption) _ | refine ⟨?_, ?_⟩)); (first | done | fail)))⟩
          · repeat' (first
              | refine f_seq ?_
              | (refine f_regionL Tryz.lv3 ?_; show opsWP _ _ _ _ _ _ _ _ _)
              | (refine f_drawL Tryz.lv3 Tryz.mixed ?_; show DrK _ _ _ _ _ _ _ _ _ _)
              | (refine ops_go rfl ?_; first
                  | (apply g_len Tryz.tbOk; exact rfl; exact rfl; exact rfl; exact rfl; exact hlg)
                  | (apply g_sum Tryz.tbOk; exact rfl; exact rfl; exact rfl; exact rfl; exact rfl; (constructor <;> omega))
                  | (apply g_rem Tryz.tbOk; exact rfl; exact rfl; exact rfl; exact rfl; (first | omega | (dsimp only; omega)))
                  | (apply g_quo Tryz.tbOk; exact rfl; exact rfl; exact rfl; exact rfl; (first | omega | (dsimp only; omega)); (constructor <;> omega))
                  | (apply g_cat; exact rfl; exact rfl; exact rfl; (first | omega | (simp; done) | (simp; omega)))
                  | (apply g_cmp Tryz.tbOk; exact rfl; exact rfl; exact rfl; exact rfl; exact rfl; intro c hc; first | (have hb := BD.yes hc (by omega); subst hb; clear hc) | (have hb := BD.no hc (by omega); subst hb; clear hc) | skip)
                  | (apply g_cmpS Tryz.tbOk; exact rfl; exact rfl; exact rfl; exact rfl; intro c hc)
                  | (apply g_eqW Tryz.tbOk Tryz.elOk; exact rfl; exact rfl; exact rfl; exact rfl; exact rfl; exact rfl; intro c hc)
                  | (apply g_conv Tryz.tbOk; exact rfl; exact rfl; exact rfl; exact rfl; exact rfl; (constructor <;> omega))
                  | (apply x_set Tryz.tbOk Tryz.elOk Tryz.xtOk; exact rfl; exact rfl)
                  | (apply x_grow Tryz.tbOk Tryz.elOk Tryz.xtOk; exact rfl; exact rfl)
                  | (apply x_store Tryz.tbOk Tryz.elOk Tryz.xtOk; exact rfl)
                  | (apply x_setN Tryz.tbOk Tryz.elOk Tryz.xtOk; exact rfl)
                  | (apply g_ixs Tryz.tbOk; exact rfl; exact rfl; exact rfl; exact rfl; exact rfl; omega)
                  | (apply g_ips Tryz.tbOk; exact rfl; exact rfl; exact rfl; exact rfl; exact rfl; exact rfl; exact rfl; (first | omega | (dsimp only; omega)))
                  | (apply g_sls Tryz.tbOk; exact rfl; exact rfl; exact rfl; exact rfl; exact rfl; exact rfl; omega)
                  | (apply g_ixg Tryz.tbOk; exact rfl; exact rfl; exact rfl; exact rfl; exact rfl; exact rfl; (first | omega | (dsimp only; omega))))
              | refine ops_skip rfl rfl ?_
              | refine ops_nil ?_
              | refine then_n ?_
              | refine f_condT rfl ?_
              | refine f_condF rfl ?_
              | refine f_block ?_
              | refine f_exit ?_
              | refine f_ret ?_
              | refine f_skip ?_
              | refine DrK.nil rfl ?_
              | refine d_skip rfl rfl ?_
              | refine d_skipN rfl ?_
              | (apply d_any; exact rfl; exact rfl; exact st_sum Tryz.tbOk rfl rfl rfl rfl (by constructor <;> omega))
              | (refine d_bd rfl rfl (st_cmp Tryz.tbOk rfl rfl rfl rfl) ?_; intro c hc; first | (have hb := BD.yes hc (by omega); subst hb; clear hc) | (have hb := BD.no hc (by omega); subst hb; clear hc) | skip)
              | (refine d_bd rfl rfl (st_cmpS Tryz.tbOk rfl rfl rfl) ?_; intro c hc)
              | (refine d_bd rfl rfl (st_eqW Tryz.tbOk Tryz.elOk rfl rfl rfl rfl rfl) ?_; intro c hc)
              | (apply d_set Tryz.tbOk Tryz.elOk Tryz.xtOk; exact rfl; exact rfl; exact rfl)
              | (apply d_ips Tryz.tbOk; exact rfl; exact rfl; exact rfl; exact rfl; exact rfl; exact rfl; exact rfl; exact rfl; (first | omega | (dsimp only; omega)))
              | (apply d_ixg Tryz.tbOk; exact rfl; exact rfl; exact rfl; exact rfl; exact rfl; exact rfl; exact rfl; (first | omega | (dsimp only; omega)))
              | (apply d_grow Tryz.tbOk Tryz.elOk Tryz.xtOk; exact rfl; exact rfl; exact rfl)
              | (apply d_store Tryz.tbOk Tryz.elOk Tryz.xtOk; exact rfl; exact rfl)
              | refine then_x ?_
              | refine then_r ?_
              | refine blk_n ?_
              | refine blk_eq rfl ?_
              | refine blk_ne rfl ?_
              | refine blk_r ?_
              | refine loop_x ?_
              | refine loop_r ?_
              | refine cut_x ?_
              | refine cut_r ?_
              | refine body_ret rfl rfl ?_
              | refine body_end rfl rfl ?_
              | exact (rfl : AEnd.ret _ = AEnd.ret _)
              | exact ⟨rfl, _, rfl⟩
              | exact ⟨rfl, HFin.refl _⟩
              | (rename BD _ _ => hbd; cases hbd)
              | (rename ¬ _ = _ => hq; exact absurd rfl hq))
            cases mine <;> exact cut_n (l, next, _) ⟨hne, hinv⟩ ⟨[0, 1, 2, 3], rfl, (by ((repeat' (first | exact trivial | exact rfl | assumption | exact objv_enc (by assumption) rfl | exact objv_gr (by assumption) rfl | exact get_fn rfl (by assumption) rfl | exact InSl.getr (by assumption) rfl | exact InSl.le (by assumption) _ | exact AVs.le_mono (Nat.le_of_ble_eq_true rfl) _ (by assumption) | exact Nat.le_of_ble_eq_true rfl | exact Enc.Gr.le (by assumption) _ _ | exact gr_le (by assumption) _ | refine ⟨?_, ?_⟩)); (first | done | fail))), rfl, rfl, (by ((repeat' (first | exact trivial | exact rfl | assumption | exact objv_enc (by assumption) rfl | exact objv_gr (by assumption) rfl | exact get_fn rfl (by assumption) rfl | exact InSl.getr (by assumption) rfl | exact InSl.le (by assumption) _ | exact AVs.le_mono (Nat.le_of_ble_eq_true rfl) _ (by assumption) | exact Nat.le_of_ble_eq_true rfl | exact Enc.Gr.le (by assumption) _ _ | exact gr_le (by assumption) _ | refine ⟨?_, ?_⟩)); (first | done | fail)))⟩
        · rintro ⟨l, next, mine⟩ ⟨hne, hinv⟩
          dsimp only at hne hinv ⊢
          obtain ⟨c0, l0, rfl⟩ : ∃ c0 l0, l = c0 :: l0 := by cases l <;> simp at hne ⊢
          have hlen := hinv.len
          have hall := all_spec G (c0 :: l0) (.slc 1 0 (c0 :: l0).length (.opn 0 0)) next (by omega) (.inr rfl) (c0.id :: l0.map (·.id)) rfl
          have hil : (c0.id :: l0.map (·.id)).length = (c0 :: l0).length := by simp
          have hcn := hinv.cn (kyOf b)
          have hml := hinv.len_le
          have hle6 : (outV 2 mine).le 6 := by cases mine <;> first | trivial | exact Nat.le_of_ble_eq_true rfl
          have hmv := outV_len 2 mine
          generalize hl : c0 :: l0 = l at *
          generalize hids : c0.id :: l0.map (·.id) = ids at *
          have hrv : resV 3 ids = .slc 3 0 ids.length (.exact ids.length) := by rw [← hids]; rfl
          have hov : outO ids = [.cells (intE.of ids) 3 true true] := by rw [← hids]; rfl
          rw [hrv, hov] at hall
          have hidg : ∀ (j : Nat) (x : Cn), l[j]? = some x → ids[j]? = some x.id := fun j x hx => by
            rw [← hids, ← hl] at *
            have : (c0.id :: l0.map (·.id)) = (c0 :: l0).map (·.id) := rfl
            rw [this, List.getElem?_map, hx]; rfl
          repeat' (first
            | refine f_seq ?_
            | (refine f_regionL Tryz.lv3 ?_; show opsWP _ _ _ _ _ _ _ _ _)
            | (refine f_drawL Tryz.lv3 Tryz.mixed ?_; show DrK _ _ _ _ _ _ _ _ _ _)
            | (refine ops_go rfl ?_; first
                | (apply g_ret (h' := [cW (.slc 1 0 l.length (.opn 0 0)) next, aW l, outD mine, kO (kyOf b) true, .dead, .cells (intE.of ids) 3 true true]); exact rfl; exact rfl; exact Tryz.fnOk rfl; exact RetTo.frameX hall [0, 1] rfl (by ((repeat' (first | exact trivial | exact fits_enc (by assumption) (fun _ => rfl) | exact fits_enc (by assumption) (fun h => h) | exact ⟨_, rfl, fun _ => rfl⟩ | exact ⟨_, rfl, fun h => h⟩ | refine ⟨?_, ?_⟩)); (first | done | fail))) (by ((repeat' (first | exact trivial | assumption | exact AVs.le_mono (Nat.le_of_ble_eq_true rfl) _ (by assumption) | exact Nat.le_of_ble_eq_true rfl | exact Enc.Gr.le (by assumption) _ _ | exact gr_le (by assumption) _ | exact InSl.le (by assumption) _ | refine ⟨?_, ?_⟩)); (first | done | fail))) (by ((repeat' (first | exact trivial | assumption | exact AVs.le_mono (Nat.le_of_ble_eq_true rfl) _ (by assumption) | exact Nat.le_of_ble_eq_true rfl | exact Enc.Gr.le (by assumption) _ _ | exact gr_le (by assumption) _ | exact InSl.le (by assumption) _ | refine ⟨?_, ?_⟩)); (first | done | fail))) rfl rfl (by show _ ++ [AObj.dead, AObj.cells (AVs.ren _ (intE.of ids)) _ _ _] = _; rw [intGr.ren]; rfl))
                | (apply g_sum Tryz.tbOk; exact rfl; exact rfl; exact rfl; exact rfl; exact rfl; (constructor <;> omega))
                | (apply g_rem Tryz.tbOk; exact rfl; exact rfl; exact rfl; exact rfl; (first | omega | (dsimp only; omega)))
                | (apply g_quo Tryz.tbOk; exact rfl; exact rfl; exact rfl; exact rfl; (first | omega | (dsimp only; omega)); (constructor <;> omega))
                | (apply g_cat; exact rfl; exact rfl; exact rfl; (first | omega | (simp; done) | (simp; omega)))
                | (apply g_cmp Tryz.tbOk; exact rfl; exact rfl; exact rfl; exact rfl; exact rfl; intro c hc; first | (have hb := BD.yes hc (by omega); subst hb; clear hc) | (have hb := BD.no hc (by omega); subst hb; clear hc) | skip)
                | (apply g_cmpS Tryz.tbOk; exact rfl; exact rfl; exact rfl; exact rfl; intro c hc)
                | (apply g_eqW Tryz.tbOk Tryz.elOk; exact rfl; exact rfl; exact rfl; exact rfl; exact rfl; exact rfl; intro c hc)
                | (apply g_conv Tryz.tbOk; exact rfl; exact rfl; exact rfl; exact rfl; exact rfl; (constructor <;> omega))
                | (apply x_set Tryz.tbOk Tryz.elOk Tryz.xtOk; exact rfl; exact rfl)
                | (apply x_grow Tryz.tbOk Tryz.elOk Tryz.xtOk; exact rfl; exact rfl)
                | (apply x_store Tryz.tbOk Tryz.elOk Tryz.xtOk; exact rfl)
                | (apply x_setN Tryz.tbOk Tryz.elOk Tryz.xtOk; exact rfl)
                | (apply g_ixs Tryz.tbOk; exact rfl; exact rfl; exact rfl; exact rfl; exact rfl; omega)
                | (apply g_ips Tryz.tbOk; exact rfl; exact rfl; exact rfl; exact rfl; exact rfl; exact rfl; exact rfl; (first | omega | (dsimp only; omega)))
                | (apply g_sls Tryz.tbOk; exact rfl; exact rfl; exact rfl; exact rfl; exact rfl; exact rfl; omega)
                | (apply g_ixg Tryz.tbOk; exact rfl; exact rfl; exact rfl; exact rfl; exact rfl; exact rfl; (first | omega | (dsimp only; omega))))
            | refine ops_skip rfl rfl ?_
            | refine ops_nil ?_
            | refine then_n ?_
            | refine f_condT rfl ?_
            | refine f_condF rfl ?_
            | refine f_block ?_
            | refine f_exit ?_
            | refine f_ret ?_
            | refine f_skip ?_
            | refine DrK.nil rfl ?_
            | refine d_skip rfl rfl ?_
            | refine d_skipN rfl ?_
            | (apply d_any; exact rfl; exact rfl; exact st_sum Tryz.tbOk rfl rfl rfl rfl (by constructor <;> omega))
            | (refine d_bd rfl rfl (st_cmp Tryz.tbOk rfl rfl rfl rfl) ?_; intro c hc; first | (have hb := BD.yes hc (by omega); subst hb; clear hc) | (have hb := BD.no hc (by omega); subst hb; clear hc) | skip)
            | (refine d_bd rfl rfl (st_cmpS Tryz.tbOk rfl rfl rfl) ?_; intro c hc)
            | (refine d_bd rfl rfl (st_eqW Tryz.tbOk Tryz.elOk rfl rfl rfl rfl rfl) ?_; intro c hc)
            | (apply d_set Tryz.tbOk Tryz.elOk Tryz.xtOk; exact rfl; exact rfl; exact rfl)
            | (apply d_ips Tryz.tbOk; exact rfl; exact rfl; exact rfl; exact rfl; exact rfl; exact rfl; exact rfl; exact rfl; (first | omega | (dsimp only; omega)))
            | (apply d_ixg Tryz.tbOk; exact rfl; exact rfl; exact rfl; exact rfl; exact rfl; exact rfl; exact rfl; (first | omega | (dsimp only; omega)))
            | (apply d_grow Tryz.tbOk Tryz.elOk Tryz.xtOk; exact rfl; exact rfl; exact rfl)
            | (apply d_store Tryz.tbOk Tryz.elOk Tryz.xtOk; exact rfl; exact rfl)
            | refine then_x ?_
            | refine then_r ?_
            | refine blk_n ?_
            | refine blk_eq rfl ?_
            | refine blk_ne rfl ?_
            | refine blk_r ?_
            | refine loop_x ?_
            | refine loop_r ?_
            | refine cut_x ?_
            | refine cut_r ?_
            | refine body_ret rfl rfl ?_
            | refine body_end rfl rfl ?_
            | exact (rfl : AEnd.ret _ = AEnd.ret _)
            | exact ⟨rfl, _, rfl⟩
            | exact ⟨rfl, HFin.refl _⟩
            | (rename BD _ _ => hbd; cases hbd)
            | (rename ¬ _ = _ => hq; exact absurd rfl hq))
          refine f_loopC (fun x : Nat × Nat => [(0, .gslc tg to T.length tc), (1, gv), (5, .ptr 0 0), (6, outV 2 mine), (7, .int .i64 i), (8, .ptr 3 0), (16, .slc 5 0 ids.length (.exact ids.length)), (17, .int .i64 x.2), (18, .int .i64 x.1)]) (fun x => x.1 ≤ l.length ∧ x.2 = cnt (kyOf b) (l.take x.1)) (fun x => l.length - x.1) (0, 0) ⟨Nat.zero_le _, rfl⟩ ⟨rfl, rfl, rfl, rfl, rfl, rfl, rfl, rfl, rfl, trivial⟩ (fun _ => rfl) rfl (fun _ _ => (by ((repeat' (first | exact trivial | assumption | exact AVs.le_mono (Nat.le_of_ble_eq_true rfl) _ (by assumption) | exact Nat.le_of_ble_eq_true rfl | exact Enc.Gr.le (by assumption) _ _ | exact gr_le (by assumption) _ | exact InSl.le (by assumption) _ | refine ⟨?_, ?_⟩)); (first | done | fail)))) ?_
          rintro ⟨j, many⟩ ⟨hj, hmany⟩
          dsimp only at hj hmany ⊢
          have hmj := cnt_le (kyOf b) l j
          rw [← hmany] at hmj
          rcases Nat.lt_or_ge j l.length with hjl | hjl
          · obtain ⟨x, hx⟩ : ∃ x, l[j]? = some x := ⟨_, List.getElem?_eq_getElem hjl⟩
            have hidj := hidg j x hx
            have hkeyj := key_spec G l next x.id j x (by omega) (place_iff hinv.sorted hx) hx rfl
            repeat' (first
              | refine f_seq ?_
              | (refine f_regionL Tryz.lv3 ?_; show opsWP _ _ _ _ _ _ _ _ _)
              | (refine f_drawL Tryz.lv3 Tryz.mixed ?_; show DrK _ _ _ _ _ _ _ _ _ _)
              | (refine ops_go rfl ?_; first
                  | (apply g_load Tryz.tbOk; exact rfl; exact rfl; exact rfl; exact rfl; exact intE.load_cell (j := 0) hidj rfl (by dsimp only; omega) (by decide) rfl)
                  | (apply g_ret; exact rfl; exact rfl; exact Tryz.fnOk rfl; exact RetTo.frameR (hkeyj) [0, 1] rfl (by ((repeat' (first | exact trivial | exact fits_enc (by assumption) (fun _ => rfl) | exact fits_enc (by assumption) (fun h => h) | exact ⟨_, rfl, fun _ => rfl⟩ | exact ⟨_, rfl, fun h => h⟩ | refine ⟨?_, ?_⟩)); (first | done | fail))) (by ((repeat' (first | exact trivial | assumption | exact AVs.le_mono (Nat.le_of_ble_eq_true rfl) _ (by assumption) | exact Nat.le_of_ble_eq_true rfl | exact Enc.Gr.le (by assumption) _ _ | exact gr_le (by assumption) _ | exact InSl.le (by assumption) _ | refine ⟨?_, ?_⟩)); (first | done | fail))) (by ((repeat' (first | exact trivial | assumption | exact AVs.le_mono (Nat.le_of_ble_eq_true rfl) _ (by assumption) | exact Nat.le_of_ble_eq_true rfl | exact Enc.Gr.le (by assumption) _ _ | exact gr_le (by assumption) _ | exact InSl.le (by assumption) _ | refine ⟨?_, ?_⟩)); (first | done | fail))) rfl rfl rfl)
                  | (apply g_sum Tryz.tbOk; exact rfl; exact rfl; exact rfl; exact rfl; exact rfl; (constructor <;> omega))
                  | (apply g_rem Tryz.tbOk; exact rfl; exact rfl; exact rfl; exact rfl; (first | omega | (dsimp only; omega)))
                  | (apply g_quo Tryz.tbOk; exact rfl; exact rfl; exact rfl; exact rfl; (first | omega | (dsimp only; omega)); (constructor <;> omega))
                  | (apply g_cat; exact rfl; exact rfl; exact rfl; (first | omega | (simp; done) | (simp; omega)))
                  | (apply g_cmp Tryz.tbOk; exact rfl; exact rfl; exact rfl; exact rfl; exact rfl; intro c hc; first | (have hb := BD.yes hc (by omega); subst hb; clear hc) | (have hb := BD.no hc (by omega); subst hb; clear hc) | skip)
                  | (apply g_cmpS Tryz.tbOk; exact rfl; exact rfl; exact rfl; exact rfl; intro c hc)
                  | (apply g_eqW Tryz.tbOk Tryz.elOk; exact rfl; exact rfl; exact rfl; exact rfl; exact rfl; exact rfl; intro c hc)
                  | (apply g_conv Tryz.tbOk; exact rfl; exact rfl; exact rfl; exact rfl; exact rfl; (constructor <;> omega))
                  | (apply x_set Tryz.tbOk Tryz.elOk Tryz.xtOk; exact rfl; exact rfl)
                  | (apply x_grow Tryz.tbOk Tryz.elOk Tryz.xtOk; exact rfl; exact rfl)
                  | (apply x_store Tryz.tbOk Tryz.elOk Tryz.xtOk; exact rfl)
                  | (apply x_setN Tryz.tbOk Tryz.elOk Tryz.xtOk; exact rfl)
                  | (apply g_ixs Tryz.tbOk; exact rfl; exact rfl; exact rfl; exact rfl; exact rfl; omega)
                  | (apply g_ips Tryz.tbOk; exact rfl; exact rfl; exact rfl; exact rfl; exact rfl; exact rfl; exact rfl; (first | omega | (dsimp only; omega)))
                  | (apply g_sls Tryz.tbOk; exact rfl; exact rfl; exact rfl; exact rfl; exact rfl; exact rfl; omega)
                  | (apply g_ixg Tryz.tbOk; exact rfl; exact rfl; exact rfl; exact rfl; exact rfl; exact rfl; (first | omega | (dsimp only; omega))))
              | refine ops_skip rfl rfl ?_
              | refine ops_nil ?_
              | refine then_n ?_
              | refine f_condT rfl ?_
              | refine f_condF rfl ?_
              | refine f_block ?_
              | refine f_exit ?_
              | refine f_ret ?_
              | refine f_skip ?_
              | refine DrK.nil rfl ?_
              | refine d_skip rfl rfl ?_
              | refine d_skipN rfl ?_
              | (apply d_load Tryz.tbOk; exact rfl; exact rfl; exact rfl; exact rfl; exact rfl; exact intE.load_cell (j := 0) hidj rfl (by dsimp only; omega) (by decide) rfl)
              | (apply d_callR; exact rfl; exact rfl; exact rfl; exact Tryz.fnOk rfl; exact fun g => RetTo.frameR (hkeyj) [0, 1] rfl (by ((repeat' (first | exact trivial | exact fits_enc (by assumption) (fun _ => rfl) | exact fits_enc (by assumption) (fun h => h) | exact ⟨_, rfl, fun _ => rfl⟩ | exact ⟨_, rfl, fun h => h⟩ | refine ⟨?_, ?_⟩)); (first | done | fail))) (by ((repeat' (first | exact trivial | assumption | exact AVs.le_mono (Nat.le_of_ble_eq_true rfl) _ (by assumption) | exact Nat.le_of_ble_eq_true rfl | exact Enc.Gr.le (by assumption) _ _ | exact gr_le (by assumption) _ | exact InSl.le (by assumption) _ | refine ⟨?_, ?_⟩)); (first | done | fail))) (by ((repeat' (first | exact trivial | assumption | exact AVs.le_mono (Nat.le_of_ble_eq_true rfl) _ (by assumption) | exact Nat.le_of_ble_eq_true rfl | exact Enc.Gr.le (by assumption) _ _ | exact gr_le (by assumption) _ | exact InSl.le (by assumption) _ | refine ⟨?_, ?_⟩)); (first | done | fail))) rfl rfl (List.append_nil _))
              | (apply d_any; exact rfl; exact rfl; exact st_sum Tryz.tbOk rfl rfl rfl rfl (by constructor <;> omega))
              | (refine d_bd rfl rfl (st_cmp Tryz.tbOk rfl rfl rfl rfl) ?_; intro c hc; first | (have hb := BD.yes hc (by omega); subst hb; clear hc) | (have hb := BD.no hc (by omega); subst hb; clear hc) | skip)
              | (refine d_bd rfl rfl (st_cmpS Tryz.tbOk rfl rfl rfl) ?_; intro c hc)
              | (refine d_bd rfl rfl (st_eqW Tryz.tbOk Tryz.elOk rfl rfl rfl rfl rfl) ?_; intro c hc)
              | (apply d_set Tryz.tbOk Tryz.elOk Tryz.xtOk; exact rfl; exact rfl; exact rfl)
              | (apply d_ips Tryz.tbOk; exact rfl; exact rfl; exact rfl; exact rfl; exact rfl; exact rfl; exact rfl; exact rfl; (first | omega | (dsimp only; omega)))
              | (apply d_ixg Tryz.tbOk; exact rfl; exact rfl; exact rfl; exact rfl; exact rfl; exact rfl; exact rfl; (first | omega | (dsimp only; omega)))
              | (apply d_grow Tryz.tbOk Tryz.elOk Tryz.xtOk; exact rfl; exact rfl; exact rfl)
              | (apply d_store Tryz.tbOk Tryz.elOk Tryz.xtOk; exact rfl; exact rfl)
              | refine then_x ?_
              | refine then_r ?_
              | refine blk_n ?_
              | refine blk_eq rfl ?_
              | refine blk_ne rfl ?_
              | refine blk_r ?_
              | refine loop_x ?_
              | refine loop_r ?_
              | refine cut_x ?_
              | refine cut_r ?_
              | refine body_ret rfl rfl ?_
              | refine body_end rfl rfl ?_
              | exact (rfl : AEnd.ret _ = AEnd.ret _)
              | exact ⟨rfl, _, rfl⟩
              | exact ⟨rfl, HFin.refl _⟩
              | (rename BD _ _ => hbd; cases hbd)
              | (rename ¬ _ = _ => hq; exact absurd rfl hq))
            · rename_i q
              rw [ky_eq] at q
              exact loop_c (j + 1, many + 1) ⟨by dsimp only; omega, by dsimp only; rw [cnt_s hx, if_pos q, ← hmany]⟩ (by dsimp only; omega) ⟨rfl, rfl, rfl, rfl, rfl, rfl, rfl, rfl, rfl, trivial⟩ rfl ⟨_, rfl⟩
            · rename_i q
              rw [ky_eq] at q
              exact loop_c (j + 1, many) ⟨by dsimp only; omega, by dsimp only; rw [cnt_s hx, if_neg q, ← hmany, Nat.add_zero]⟩ (by dsimp only; omega) ⟨rfl, rfl, rfl, rfl, rfl, rfl, rfl, rfl, rfl, trivial⟩ rfl ⟨_, rfl⟩
          · obtain rfl : j = l.length := by omega
            rw [List.take_length] at hmany
            repeat' (first
              | refine f_seq ?_
              | (refine f_regionL Tryz.lv3 ?_; show opsWP _ _ _ _ _ _ _ _ _)
              | (refine f_drawL Tryz.lv3 Tryz.mixed ?_; show DrK _ _ _ _ _ _ _ _ _ _)
              | (refine ops_go rfl ?_; first
                  | (apply g_len Tryz.tbOk; exact rfl; exact rfl; exact rfl; exact rfl; exact hmv)
                  | (apply g_sum Tryz.tbOk; exact rfl; exact rfl; exact rfl; exact rfl; exact rfl; (constructor <;> omega))
                  | (apply g_rem Tryz.tbOk; exact rfl; exact rfl; exact rfl; exact rfl; (first | omega | (dsimp only; omega)))
                  | (apply g_quo Tryz.tbOk; exact rfl; exact rfl; exact rfl; exact rfl; (first | omega | (dsimp only; omega)); (constructor <;> omega))
                  | (apply g_cat; exact rfl; exact rfl; exact rfl; (first | omega | (simp; done) | (simp; omega)))
                  | (apply g_cmp Tryz.tbOk; exact rfl; exact rfl; exact rfl; exact rfl; exact rfl; intro c hc; first | (have hb := BD.yes hc (by omega); subst hb; clear hc) | (have hb := BD.no hc (by omega); subst hb; clear hc) | skip)
                  | (apply g_cmpS Tryz.tbOk; exact rfl; exact rfl; exact rfl; exact rfl; intro c hc)
                  | (apply g_eqW Tryz.tbOk Tryz.elOk; exact rfl; exact rfl; exact rfl; exact rfl; exact rfl; exact rfl; intro c hc)
                  | (apply g_conv Tryz.tbOk; exact rfl; exact rfl; exact rfl; exact rfl; exact rfl; (constructor <;> omega))
                  | (apply x_set Tryz.tbOk Tryz.elOk Tryz.xtOk; exact rfl; exact rfl)
                  | (apply x_grow Tryz.tbOk Tryz.elOk Tryz.xtOk; exact rfl; exact rfl)
                  | (apply x_store Tryz.tbOk Tryz.elOk Tryz.xtOk; exact rfl)
                  | (apply x_setN Tryz.tbOk Tryz.elOk Tryz.xtOk; exact rfl)
                  | (apply g_ixs Tryz.tbOk; exact rfl; exact rfl; exact rfl; exact rfl; exact rfl; omega)
                  | (apply g_ips Tryz.tbOk; exact rfl; exact rfl; exact rfl; exact rfl; exact rfl; exact rfl; exact rfl; (first | omega | (dsimp only; omega)))
                  | (apply g_sls Tryz.tbOk; exact rfl; exact rfl; exact rfl; exact rfl; exact rfl; exact rfl; omega)
                  | (apply g_ixg Tryz.tbOk; exact rfl; exact rfl; exact rfl; exact rfl; exact rfl; exact rfl; (first | omega | (dsimp only; omega))))
              | refine ops_skip rfl rfl ?_
              | refine ops_nil ?_
              | refine then_n ?_
              | refine f_condT rfl ?_
              | refine f_condF rfl ?_
              | refine f_block ?_
              | refine f_exit ?_
              | refine f_ret ?_
              | refine f_skip ?_
              | refine DrK.nil rfl ?_
              | refine d_skip rfl rfl ?_
              | refine d_skipN rfl ?_
              | (apply d_any; exact rfl; exact rfl; exact st_sum Tryz.tbOk rfl rfl rfl rfl (by constructor <;> omega))
              | (refine d_bd rfl rfl (st_cmp Tryz.tbOk rfl rfl rfl rfl) ?_; intro c hc; first | (have hb := BD.yes hc (by omega); subst hb; clear hc) | (have hb := BD.no hc (by omega); subst hb; clear hc) | skip)
              | (refine d_bd rfl rfl (st_cmpS Tryz.tbOk rfl rfl rfl) ?_; intro c hc)
              | (refine d_bd rfl rfl (st_eqW Tryz.tbOk Tryz.elOk rfl rfl rfl rfl rfl) ?_; intro c hc)
              | (apply d_set Tryz.tbOk Tryz.elOk Tryz.xtOk; exact rfl; exact rfl; exact rfl)
              | (apply d_ips Tryz.tbOk; exact rfl; exact rfl; exact rfl; exact rfl; exact rfl; exact rfl; exact rfl; exact rfl; (first | omega | (dsimp only; omega)))
              | (apply d_ixg Tryz.tbOk; exact rfl; exact rfl; exact rfl; exact rfl; exact rfl; exact rfl; exact rfl; (first | omega | (dsimp only; omega)))
              | (apply d_grow Tryz.tbOk Tryz.elOk Tryz.xtOk; exact rfl; exact rfl; exact rfl)
              | (apply d_store Tryz.tbOk Tryz.elOk Tryz.xtOk; exact rfl; exact rfl)
              | refine then_x ?_
              | refine then_r ?_
              | refine blk_n ?_
              | refine blk_eq rfl ?_
              | refine blk_ne rfl ?_
              | refine blk_r ?_
              | refine loop_x ?_
              | refine loop_r ?_
              | refine cut_x ?_
              | refine cut_r ?_
              | refine body_ret rfl rfl ?_
              | refine body_end rfl rfl ?_
              | exact (rfl : AEnd.ret _ = AEnd.ret _)
              | exact ⟨rfl, _, rfl⟩
              | exact ⟨rfl, HFin.refl _⟩
              | (rename BD _ _ => hbd; cases hbd)
              | (rename ¬ _ = _ => hq; exact absurd rfl hq))
            cases mine <;> exact loop_v (i + 1, some (l, next, _)) ⟨by omega, hinv, by rw [← hl]; simp⟩ (by dsimp only; omega) ⟨[0, 1, 2], rfl, (by ((repeat' (first | exact trivial | exact rfl | assumption | exact objv_enc (by assumption) rfl | exact objv_gr (by assumption) rfl | exact get_fn rfl (by assumption) rfl | exact InSl.getr (by assumption) rfl | exact InSl.le (by assumption) _ | exact AVs.le_mono (Nat.le_of_ble_eq_true rfl) _ (by assumption) | exact Nat.le_of_ble_eq_true rfl | exact Enc.Gr.le (by assumption) _ _ | exact gr_le (by assumption) _ | refine ⟨?_, ?_⟩)); (first | done | fail))), rfl, rfl, (by ((repeat' (first | exact trivial | exact rfl | assumption | exact objv_enc (by assumption) rfl | exact objv_gr (by assumption) rfl | exact get_fn rfl (by assumption) rfl | exact InSl.getr (by assumption) rfl | exact InSl.le (by assumption) _ | exact AVs.le_mono (Nat.le_of_ble_eq_true rfl) _ (by assumption) | exact Nat.le_of_ble_eq_true rfl | exact Enc.Gr.le (by assumption) _ _ | exact gr_le (by assumption) _ | refine ⟨?_, ?_⟩)); (first | done | fail)))⟩
  · repeat' (first
      | refine f_seq ?_
      | (refine f_regionL Tryz.lv3 ?_; show opsWP _ _ _ _ _ _ _ _ _)
      | (refine f_drawL Tryz.lv3 Tryz.mixed ?_; show DrK _ _ _ _ _ _ _ _ _ _)
      | (refine ops_go rfl ?_; first
          | (apply g_len Tryz.tbOk; exact rfl; exact rfl; exact rfl; exact rfl; exact hT.len)
          | (apply g_callP; exact rfl; exact rfl; exact Tryz.fnOk rfl; exact lives_spec G)
          | (apply g_sum Tryz.tbOk; exact rfl; exact rfl; exact rfl; exact rfl; exact rfl; (constructor <;> omega))
          | (apply g_rem Tryz.tbOk; exact rfl; exact rfl; exact rfl; exact rfl; (first | omega | (dsimp only; omega)))
          | (apply g_quo Tryz.tbOk; exact rfl; exact rfl; exact rfl; exact rfl; (first | omega | (dsimp only; omega)); (constructor <;> omega))
          | (apply g_cat; exact rfl; exact rfl; exact rfl; (first | omega | (simp; done) | (simp; omega)))
          | (apply g_cmp Tryz.tbOk; exact rfl; exact rfl; exact rfl; exact rfl; exact rfl; intro c hc; first | (have hb := BD.yes hc (by omega); subst hb; clear hc) | (have hb := BD.no hc (by omega); subst hb; clear hc) | skip)
          | (apply g_cmpS Tryz.tbOk; exact rfl; exact rfl; exact rfl; exact rfl; intro c hc)
          | (apply g_eqW Tryz.tbOk Tryz.elOk; exact rfl; exact rfl; exact rfl; exact rfl; exact rfl; exact rfl; intro c hc)
          | (apply g_conv Tryz.tbOk; exact rfl; exact rfl; exact rfl; exact rfl; exact rfl; (constructor <;> omega))
          | (apply x_set Tryz.tbOk Tryz.elOk Tryz.xtOk; exact rfl; exact rfl)
          | (apply x_grow Tryz.tbOk Tryz.elOk Tryz.xtOk; exact rfl; exact rfl)
          | (apply x_store Tryz.tbOk Tryz.elOk Tryz.xtOk; exact rfl)
          | (apply x_setN Tryz.tbOk Tryz.elOk Tryz.xtOk; exact rfl)
          | (apply g_ixs Tryz.tbOk; exact rfl; exact rfl; exact rfl; exact rfl; exact rfl; omega)
          | (apply g_ips Tryz.tbOk; exact rfl; exact rfl; exact rfl; exact rfl; exact rfl; exact rfl; exact rfl; (first | omega | (dsimp only; omega)))
          | (apply g_sls Tryz.tbOk; exact rfl; exact rfl; exact rfl; exact rfl; exact rfl; exact rfl; omega)
          | (apply g_ixg Tryz.tbOk; exact rfl; exact rfl; exact rfl; exact rfl; exact rfl; exact rfl; (first | omega | (dsimp only; omega))))
      | refine ops_skip rfl rfl ?_
      | refine ops_nil ?_
      | refine then_n ?_
      | refine f_condT rfl ?_
      | refine f_condF rfl ?_
      | refine f_block ?_
      | refine f_exit ?_
      | refine f_ret ?_
      | refine f_skip ?_
      | refine DrK.nil rfl ?_
      | refine d_skip rfl rfl ?_
      | refine d_skipN rfl ?_
      | (apply d_callP; exact rfl; exact rfl; exact rfl; exact Tryz.fnOk rfl; exact lives_spec G)
      | (apply d_any; exact rfl; exact rfl; exact st_sum Tryz.tbOk rfl rfl rfl rfl (by constructor <;> omega))
      | (refine d_bd rfl rfl (st_cmp Tryz.tbOk rfl rfl rfl rfl) ?_; intro c hc; first | (have hb := BD.yes hc (by omega); subst hb; clear hc) | (have hb := BD.no hc (by omega); subst hb; clear hc) | skip)
      | (refine d_bd rfl rfl (st_cmpS Tryz.tbOk rfl rfl rfl) ?_; intro c hc)
      | (refine d_bd rfl rfl (st_eqW Tryz.tbOk Tryz.elOk rfl rfl rfl rfl rfl) ?_; intro c hc)
      | (apply d_set Tryz.tbOk Tryz.elOk Tryz.xtOk; exact rfl; exact rfl; exact rfl)
      | (apply d_ips Tryz.tbOk; exact rfl; exact rfl; exact rfl; exact rfl; exact rfl; exact rfl; exact rfl; exact rfl; (first | omega | (dsimp only; omega)))
      | (apply d_ixg Tryz.tbOk; exact rfl; exact rfl; exact rfl; exact rfl; exact rfl; exact rfl; exact rfl; (first | omega | (dsimp only; omega)))
      | (apply d_grow Tryz.tbOk Tryz.elOk Tryz.xtOk; exact rfl; exact rfl; exact rfl)
      | (apply d_store Tryz.tbOk Tryz.elOk Tryz.xtOk; exact rfl; exact rfl)
      | refine then_x ?_
      | refine then_r ?_
      | refine blk_n ?_
      | refine blk_eq rfl ?_
      | refine blk_ne rfl ?_
      | refine blk_r ?_
      | refine loop_x ?_
      | refine loop_r ?_
      | refine cut_x ?_
      | refine cut_r ?_
      | refine body_ret rfl rfl ?_
      | refine body_end rfl rfl ?_
      | exact (rfl : AEnd.ret _ = AEnd.ret _)
      | exact ⟨rfl, _, rfl⟩
      | exact ⟨rfl, HFin.refl _⟩
      | (rename BD _ _ => hbd; cases hbd)
      | (rename ¬ _ = _ => hq; exact absurd rfl hq))
end Go.Proofs
