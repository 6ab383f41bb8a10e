/- A part of the proofs over this seat: what functions of the program compute, shown once each. No statement of the seat is closed in this text. -/
import Derived.Test.YtcimapbdkmdcpaaGreatDoorHk
set_option linter.all false
set_option linter.unusedVariables false
namespace Go.Proofs
open Go.Fm
attribute [local irreducible] WP opsWP opsGo CallTo RetTo PureF StepTo StoreTo thenQ blkQ loopQ bodyQ DrK
variable (G : Nat → Nat → Option AV)

abbrev kO (k : Ky) (wr : Bool) : AObj := .cells k.cells 28 false wr
/-- The last one of a place that may be taken again, of the first so many. -/
def tkA (k : Ky) (l : List Cn) : Nat → Int
  | 0 => -1
  | n + 1 => match l[n]? with
    | some x => if x.k = k ∧ 0 ≤ x.given ∧ (tkA k l n < 0 ∨ ∀ y, l[(tkA k l n).toNat]? = some y → y.given ≤ x.given) then n else tkA k l n
    | none => tkA k l n
theorem tkA_s {k : Ky} {l : List Cn} {n : Nat} {x : Cn} (hx : l[n]? = some x) : tkA k l (n + 1) = if x.k = k ∧ 0 ≤ x.given ∧ (tkA k l n < 0 ∨ ∀ y, l[(tkA k l n).toNat]? = some y → y.given ≤ x.given) then (n : Int) else tkA k l n := by
  simp only [tkA, hx]
theorem tkA_ok (k : Ky) (l : List Cn) (n : Nat) (hn : n ≤ l.length) : -1 ≤ tkA k l n ∧ tkA k l n < n ∧ (0 ≤ tkA k l n → ∃ x, l[(tkA k l n).toNat]? = some x ∧ x.k = k ∧ 0 ≤ x.given) := by
  induction n with
  | zero => simp [tkA]
  | succ n ih =>
    have ih := ih (by omega)
    obtain ⟨x, hx⟩ : ∃ x, l[n]? = some x := ⟨_, List.getElem?_eq_getElem (by omega)⟩
    rw [tkA_s hx]
    split
    · rename_i q
      exact ⟨by omega, by omega, fun _ => ⟨x, by simpa using hx, q.1, q.2.1⟩⟩
    · exact ⟨by omega, by omega, ih.2.2⟩
/-- How many go to a place. -/
def cnt (k : Ky) (l : List Cn) : Nat := (l.filter fun x => decide (x.k = k)).length
theorem cnt_s {k : Ky} {l : List Cn} {n : Nat} {x : Cn} (hx : l[n]? = some x) : cnt k (l.take (n + 1)) = cnt k (l.take n) + if x.k = k then 1 else 0 := by
  unfold cnt
  rw [take_at hx, List.filter_append, List.length_append]
  congr 1
  by_cases h : x.k = k <;> simp [h]
theorem cnt_le (k : Ky) (l : List Cn) (n : Nat) : cnt k (l.take n) ≤ n := Nat.le_trans (List.length_filter_le _ _) (List.length_take_le _ _)

/-- What a call of Take comes to. -/
def TakePost (l : List Cn) (next : Int) (k : Ky) (id : Int) (fresh : Bool) (err : Int) (l' : List Cn) (next' : Int) : Prop :=
  (err = 0 ∧ next' = next ∧ ∃ (j : Nat) (x : Cn), l[j]? = some x ∧ x.k = k ∧ 0 ≤ x.given ∧ id = x.id ∧ l' = l.set j { x with given := -1 }) ∨
  (err = 12 ∧ l' = l ∧ next' = next ∧ (6 ≤ cnt k l ∨ 32 ≤ l.length)) ∨
  (err = 0 ∧ id = next ∧ next' = next + 1 ∧ ∃ l0, l' = l0 ++ [⟨next, k.sealed, k.host, k.port, -1⟩] ∧ ((l0 = l ∧ cnt k l < 6 ∧ l.length < 32) ∨ ∃ (j : Nat) (x : Cn), l[j]? = some x ∧ 0 ≤ x.given ∧ l0 = l.eraseIdx j ∧ (x.k = k ∧ 6 ≤ cnt k l ∨ cnt k l < 6 ∧ 32 ≤ l.length)))

theorem eld_ok (p : Cn → Bool) (l : List Cn) (n : Nat) (hn : n ≤ l.length) : -1 ≤ eld p l n ∧ eld p l n < n ∧ (0 ≤ eld p l n → ∃ x, l[(eld p l n).toNat]? = some x ∧ 0 ≤ x.given ∧ p x = true) := by
  induction n with
  | zero => simp [eld]
  | succ n ih =>
    have ih := ih (by omega)
    obtain ⟨x, hx⟩ : ∃ x, l[n]? = some x := ⟨_, List.getElem?_eq_getElem (by omega)⟩
    rw [eld_s hx]
    split
    · rename_i q
      exact ⟨by omega, by omega, fun _ => ⟨x, by simpa using hx, q.1, q.2.1⟩⟩
    · exact ⟨by omega, by omega, ih.2.2⟩
abbrev nCn (next : Int) (k : Ky) : Cn := ⟨next, k.sealed, k.host, k.port, -1⟩

def Tryz.lv8 : List (List Nat) := [[0, 1, 2], [0, 1, 2, 4], [], [0, 1, 2, 4], [], [0, 1, 2, 4], [0, 2, 4, 9], [0, 2, 4, 9, 10, 11], [0, 2, 4, 9, 10, 11, 32, 33, 34], [0, 2, 4, 9, 10, 11, 32, 33, 34], [0, 2, 4, 9, 10, 11, 12, 13, 32, 33, 34], [0, 2, 4, 9, 10, 11, 12, 13, 32, 33, 34], [0, 2, 4, 9, 10, 11, 12, 13, 32, 33, 34], [0, 2, 4, 9, 11, 12, 32, 33, 34], [0, 2, 4, 9, 10, 11, 32, 33, 34], [0, 2, 4, 9, 10, 11], [0, 10], [0, 10], [0, 2, 4, 9, 11], [0, 2, 4, 9, 11, 14], [0, 4, 9], [0, 4, 14], [], [0, 2, 4, 14], [0, 2, 4], [0, 4, 14], [], [0, 4, 14], [0, 4, 14], [0, 4], [0], [0]]
set_option maxRecDepth 100000 in
set_option maxHeartbeats 4000000 in
theorem take_spec (l : List Cn) (next now : Int) (k : Ky) (hmay : PureF Tryz.prog G 15 [.agg k.cells] (.bool true)) (hl : l.length ≤ 1000) (hn : 0 ≤ now ∧ now ≤ 300) (hg : ∀ c ∈ l, c.given ≤ 300) (hnx : 0 ≤ next ∧ next ≤ 1000000) :
    CallTo Tryz.prog G 8 [.ptr 0 0, .agg k.cells, .int .i64 now] [cW (.slc 1 0 l.length (.opn 0 0)) next, aW l]
      (fun e h' => ∃ id fresh err l' next', e = .ret (.tup [.int .i64 id, .bool fresh, .int .i64 err]) ∧ TakePost l next k id fresh err l' next' ∧
        (h' = [cW (.slc 1 0 l'.length (.opn 0 0)) next', aW l'] ∨ h' = [cW (.slc 2 0 l'.length (.opn 0 0)) next', .dead, aW l'])) := by
  have hgr := cnGr
  have htm := time_spec G now
  rw [decide_eq_true (show 0 ≤ now ∧ now ≤ 1099511627775 by omega)] at htm
  have hthere := there_spec G l (.slc 1 0 l.length (.opn 0 0)) next
  refine CallTo.fin (call_body Tryz.tbOk Tryz.func8 rfl Tryz.ntmps8 rfl rfl rfl (R := fun e q => ∃ id fresh err l' next', e = .ret (.tup [.int .i64 id, .bool fresh, .int .i64 err]) ∧ TakePost l next k id fresh err l' next' ∧
        (HFin q [cW (.slc 1 0 l'.length (.opn 0 0)) next', aW l'] ∨ HFin q [cW (.slc 2 0 l'.length (.opn 0 0)) next', .dead, aW l'])) ?_) ?_
  · dsimp only [initF, List.length_cons, List.length_nil, Nat.zero_add]
    repeat' (first
      | refine f_seq ?_
      | (refine f_regionL Tryz.lv8 ?_; show opsWP _ _ _ _ _ _ _ _ _)
      | (refine f_drawL Tryz.lv8 Tryz.mixed ?_; show DrK _ _ _ _ _ _ _ _ _ _)
      | (refine ops_go rfl ?_; first
          | (apply g_ret; exact rfl; exact rfl; exact Tryz.fnOk rfl; exact RetTo.frameR (hthere) [0, 1] rfl (by ((repeat' (first | exact trivial | exact fits_enc (by assumption) (fun _ => rfl) | exact fits_enc (by assumption) (fun h => h) | exact ⟨_, rfl, fun _ => rfl⟩ | exact ⟨_, rfl, fun h => h⟩ | refine ⟨?_, ?_⟩)); (first | done | fail))) (by ((repeat' (first | exact trivial | assumption | exact AVs.le_mono (Nat.le_of_ble_eq_true rfl) _ (by assumption) | exact Nat.le_of_ble_eq_true rfl | exact Enc.Gr.le (by assumption) _ _ | exact gr_le (by assumption) _ | exact InSl.le (by assumption) _ | refine ⟨?_, ?_⟩)); (first | done | fail))) (by ((repeat' (first | exact trivial | assumption | exact AVs.le_mono (Nat.le_of_ble_eq_true rfl) _ (by assumption) | exact Nat.le_of_ble_eq_true rfl | exact Enc.Gr.le (by assumption) _ _ | exact gr_le (by assumption) _ | exact InSl.le (by assumption) _ | refine ⟨?_, ?_⟩)); (first | done | fail))) rfl rfl rfl)
          | (apply g_callP; exact rfl; exact rfl; exact Tryz.fnOk rfl; exact hmay)
          | (apply g_callP; exact rfl; exact rfl; exact Tryz.fnOk rfl; exact htm)
          | (apply g_sum Tryz.tbOk; exact rfl; exact rfl; exact rfl; exact rfl; exact rfl; (constructor <;> omega))
          | (apply g_rem Tryz.tbOk; exact rfl; exact rfl; exact rfl; exact rfl; (first | omega | (dsimp only; omega)))
          | (apply g_quo Tryz.tbOk; exact rfl; exact rfl; exact rfl; exact rfl; (first | omega | (dsimp only; omega)); (constructor <;> omega))
          | (apply g_cat; exact rfl; exact rfl; exact rfl; (first | omega | (simp; done) | (simp; omega)))
          | (apply g_cmp Tryz.tbOk; exact rfl; exact rfl; exact rfl; exact rfl; exact rfl; intro c hc; first | (have hb := BD.yes hc (by omega); subst hb; clear hc) | (have hb := BD.no hc (by omega); subst hb; clear hc) | skip)
          | (apply g_cmpS Tryz.tbOk; exact rfl; exact rfl; exact rfl; exact rfl; intro c hc)
          | (apply g_eqW Tryz.tbOk Tryz.elOk; exact rfl; exact rfl; exact rfl; exact rfl; exact rfl; exact rfl; intro c hc)
          | (apply g_conv Tryz.tbOk; exact rfl; exact rfl; exact rfl; exact rfl; exact rfl; (constructor <;> omega))
          | (apply x_set Tryz.tbOk Tryz.elOk Tryz.xtOk; exact rfl; exact rfl)
          | (apply x_grow Tryz.tbOk Tryz.elOk Tryz.xtOk; exact rfl; exact rfl)
          | (apply x_store Tryz.tbOk Tryz.elOk Tryz.xtOk; exact rfl)
          | (apply x_setN Tryz.tbOk Tryz.elOk Tryz.xtOk; exact rfl)
          | (apply g_ixs Tryz.tbOk; exact rfl; exact rfl; exact rfl; exact rfl; exact rfl; omega)
          | (apply g_ips Tryz.tbOk; exact rfl; exact rfl; exact rfl; exact rfl; exact rfl; exact rfl; exact rfl; (first | omega | (dsimp only; omega)))
          | (apply g_sls Tryz.tbOk; exact rfl; exact rfl; exact rfl; exact rfl; exact rfl; exact rfl; omega)
          | (apply g_ixg Tryz.tbOk; exact rfl; exact rfl; exact rfl; exact rfl; exact rfl; exact rfl; (first | omega | (dsimp only; omega))))
      | refine ops_skip rfl rfl ?_
      | refine ops_nil ?_
      | refine then_n ?_
      | refine f_condT rfl ?_
      | refine f_condF rfl ?_
      | refine f_block ?_
      | refine f_exit ?_
      | refine f_ret ?_
      | refine f_skip ?_
      | refine DrK.nil rfl ?_
      | refine d_skip rfl rfl ?_
      | refine d_skipN rfl ?_
      | (apply d_callR; exact rfl; exact rfl; exact rfl; exact Tryz.fnOk rfl; exact fun g => RetTo.frameR (hthere) [0, 1] rfl (by ((repeat' (first | exact trivial | exact fits_enc (by assumption) (fun _ => rfl) | exact fits_enc (by assumption) (fun h => h) | exact ⟨_, rfl, fun _ => rfl⟩ | exact ⟨_, rfl, fun h => h⟩ | refine ⟨?_, ?_⟩)); (first | done | fail))) (by ((repeat' (first | exact trivial | assumption | exact AVs.le_mono (Nat.le_of_ble_eq_true rfl) _ (by assumption) | exact Nat.le_of_ble_eq_true rfl | exact Enc.Gr.le (by assumption) _ _ | exact gr_le (by assumption) _ | exact InSl.le (by assumption) _ | refine ⟨?_, ?_⟩)); (first | done | fail))) (by ((repeat' (first | exact trivial | assumption | exact AVs.le_mono (Nat.le_of_ble_eq_true rfl) _ (by assumption) | exact Nat.le_of_ble_eq_true rfl | exact Enc.Gr.le (by assumption) _ _ | exact gr_le (by assumption) _ | exact InSl.le (by assumption) _ | refine ⟨?_, ?_⟩)); (first | done | fail))) rfl rfl (List.append_nil _))
      | (apply d_callP; exact rfl; exact rfl; exact rfl; exact Tryz.fnOk rfl; exact hmay)
      | (apply d_callP; exact rfl; exact rfl; exact rfl; exact Tryz.fnOk rfl; exact htm)
      | (apply d_any; exact rfl; exact rfl; exact st_sum Tryz.tbOk rfl rfl rfl rfl (by constructor <;> omega))
      | (refine d_bd rfl rfl (st_cmp Tryz.tbOk rfl rfl rfl rfl) ?_; intro c hc; first | (have hb := BD.yes hc (by omega); subst hb; clear hc) | (have hb := BD.no hc (by omega); subst hb; clear hc) | skip)
      | (refine d_bd rfl rfl (st_cmpS Tryz.tbOk rfl rfl rfl) ?_; intro c hc)
      | (refine d_bd rfl rfl (st_eqW Tryz.tbOk Tryz.elOk rfl rfl rfl rfl rfl) ?_; intro c hc)
      | (apply d_set Tryz.tbOk Tryz.elOk Tryz.xtOk; exact rfl; exact rfl; exact rfl)
      | (apply d_ips Tryz.tbOk; exact rfl; exact rfl; exact rfl; exact rfl; exact rfl; exact rfl; exact rfl; exact rfl; (first | omega | (dsimp only; omega)))
      | (apply d_ixg Tryz.tbOk; exact rfl; exact rfl; exact rfl; exact rfl; exact rfl; exact rfl; exact rfl; (first | omega | (dsimp only; omega)))
      | (apply d_grow Tryz.tbOk Tryz.elOk Tryz.xtOk; exact rfl; exact rfl; exact rfl)
      | (apply d_store Tryz.tbOk Tryz.elOk Tryz.xtOk; exact rfl; exact rfl)
      | refine then_x ?_
      | refine then_r ?_
      | refine blk_n ?_
      | refine blk_eq rfl ?_
      | refine blk_ne rfl ?_
      | refine blk_r ?_
      | refine loop_x ?_
      | refine loop_r ?_
      | refine cut_x ?_
      | refine cut_r ?_
      | refine body_ret rfl rfl ?_
      | refine body_end rfl rfl ?_
      | exact (rfl : AEnd.ret _ = AEnd.ret _)
      | exact ⟨rfl, _, rfl⟩
      | exact ⟨rfl, HFin.refl _⟩
      | (rename BD _ _ => hbd; cases hbd)
      | (rename ¬ _ = _ => hq; exact absurd rfl hq))
    refine f_loopC (fun x : Nat × Int × Nat => [(0, .ptr 0 0), (2, .int .i64 now), (4, .ptr 2 0), (9, .fn (.func 17) [] [.ptr 2 0]), (10, .int .i64 x.2.1), (11, .int .i64 x.2.2), (32, .slc 1 0 l.length (.opn 0 0)), (33, .int .i64 l.length), (34, .int .i64 x.1)])
      (fun x => x.1 ≤ l.length ∧ x.2.1 = tkA k l x.1 ∧ x.2.2 = cnt k (l.take x.1)) (fun x => l.length - x.1) (0, -1, 0) ⟨by simp, rfl, rfl⟩ ⟨rfl, rfl, rfl, rfl, rfl, rfl, rfl, rfl, rfl, trivial⟩ (fun _ => rfl) rfl (fun _ _ => (by ((repeat' (first | exact trivial | assumption | exact AVs.le_mono (Nat.le_of_ble_eq_true rfl) _ (by assumption) | exact Nat.le_of_ble_eq_true rfl | exact Enc.Gr.le (by assumption) _ _ | exact gr_le (by assumption) _ | exact InSl.le (by assumption) _ | refine ⟨?_, ?_⟩)); (first | done | fail)))) ?_
    rintro ⟨i, a, m⟩ ⟨hi, ha, hm⟩
    dsimp only at hi ha hm ⊢
    have hr := tkA_ok k l i hi
    rw [← ha] at hr
    have hcl := cnt_le k l i
    rw [← hm] at hcl
    rcases Nat.lt_or_ge i l.length with hlt | hge
    · obtain ⟨x, hx⟩ : ∃ x, l[i]? = some x := ⟨_, List.getElem?_eq_getElem hlt⟩
      have hgx := hg x (List.mem_of_getElem? hx)
      have hidle : 0 ≤ x.given → PureF Tryz.prog G 19 [x.v, .int .i64 now] (.bool false) := fun h0 => by
        have := idle_spec G x now ⟨h0, by omega⟩ (by omega)
        rwa [decide_eq_false (by omega)] at this
      obtain ⟨ya, hya⟩ : ∃ ya, 0 ≤ a → l[a.toNat]? = some ya := by
        by_cases h0 : 0 ≤ a
        · exact ⟨l[a.toNat]'(by omega), fun _ => List.getElem?_eq_getElem (by omega)⟩
        · exact ⟨x, fun h => absurd h h0⟩
      have hmine := mine_spec G x k false
      by_cases hxk : x.k = k
      · rw [decide_eq_true hxk] at hmine
        have hkept := kept_spec G x
        by_cases hgk : 0 ≤ x.given
        · rw [decide_eq_true hgk] at hkept
          have hid := hidle hgk
          repeat' (first
            | refine f_seq ?_
            | (refine f_regionL Tryz.lv8 ?_; show opsWP _ _ _ _ _ _ _ _ _)
            | (refine f_drawL Tryz.lv8 Tryz.mixed ?_; show DrK _ _ _ _ _ _ _ _ _ _)
            | (refine ops_go rfl ?_; first
                | (apply g_load Tryz.tbOk; exact rfl; exact rfl; exact rfl; exact rfl; exact cnE.load_row hx rfl rfl (by dsimp only; omega))
                | (apply g_ret; exact rfl; exact rfl; exact Tryz.fnOk rfl; exact RetTo.frameR (hmine) [2] rfl (by ((repeat' (first | exact trivial | exact fits_enc (by assumption) (fun _ => rfl) | exact fits_enc (by assumption) (fun h => h) | exact ⟨_, rfl, fun _ => rfl⟩ | exact ⟨_, rfl, fun h => h⟩ | refine ⟨?_, ?_⟩)); (first | done | fail))) (by ((repeat' (first | exact trivial | assumption | exact AVs.le_mono (Nat.le_of_ble_eq_true rfl) _ (by assumption) | exact Nat.le_of_ble_eq_true rfl | exact Enc.Gr.le (by assumption) _ _ | exact gr_le (by assumption) _ | exact InSl.le (by assumption) _ | refine ⟨?_, ?_⟩)); (first | done | fail))) (by ((repeat' (first | exact trivial | assumption | exact AVs.le_mono (Nat.le_of_ble_eq_true rfl) _ (by assumption) | exact Nat.le_of_ble_eq_true rfl | exact Enc.Gr.le (by assumption) _ _ | exact gr_le (by assumption) _ | exact InSl.le (by assumption) _ | refine ⟨?_, ?_⟩)); (first | done | fail))) rfl rfl rfl)
                | (apply g_callP; exact rfl; exact rfl; exact Tryz.fnOk rfl; exact hkept)
                | (apply g_callP; exact rfl; exact rfl; exact Tryz.fnOk rfl; exact hid)
                | (apply g_load Tryz.tbOk; exact rfl; exact rfl; exact rfl; exact rfl; exact cnE.load_cell (j := 4) (hya (by omega)) rfl (by dsimp only; omega) (by omega) rfl)
                | (apply g_sum Tryz.tbOk; exact rfl; exact rfl; exact rfl; exact rfl; exact rfl; (constructor <;> omega))
                | (apply g_rem Tryz.tbOk; exact rfl; exact rfl; exact rfl; exact rfl; (first | omega | (dsimp only; omega)))
                | (apply g_quo Tryz.tbOk; exact rfl; exact rfl; exact rfl; exact rfl; (first | omega | (dsimp only; omega)); (constructor <;> omega))
                | (apply g_cat; exact rfl; exact rfl; exact rfl; (first | omega | (simp; done) | (simp; omega)))
                | (apply g_cmp Tryz.tbOk; exact rfl; exact rfl; exact rfl; exact rfl; exact rfl; intro c hc; first | (have hb := BD.yes hc (by omega); subst hb; clear hc) | (have hb := BD.no hc (by omega); subst hb; clear hc) | skip)
                | (apply g_cmpS Tryz.tbOk; exact rfl; exact rfl; exact rfl; exact rfl; intro c hc)
                | (apply g_eqW Tryz.tbOk Tryz.elOk; exact rfl; exact rfl; exact rfl; exact rfl; exact rfl; exact rfl; intro c hc)
                | (apply g_conv Tryz.tbOk; exact rfl; exact rfl; exact rfl; exact rfl; exact rfl; (constructor <;> omega))
                | (apply x_set Tryz.tbOk Tryz.elOk Tryz.xtOk; exact rfl; exact rfl)
                | (apply x_grow Tryz.tbOk Tryz.elOk Tryz.xtOk; exact rfl; exact rfl)
                | (apply x_store Tryz.tbOk Tryz.elOk Tryz.xtOk; exact rfl)
                | (apply x_setN Tryz.tbOk Tryz.elOk Tryz.xtOk; exact rfl)
                | (apply g_ixs Tryz.tbOk; exact rfl; exact rfl; exact rfl; exact rfl; exact rfl; omega)
                | (apply g_ips Tryz.tbOk; exact rfl; exact rfl; exact rfl; exact rfl; exact rfl; exact rfl; exact rfl; (first | omega | (dsimp only; omega)))
                | (apply g_sls Tryz.tbOk; exact rfl; exact rfl; exact rfl; exact rfl; exact rfl; exact rfl; omega)
                | (apply g_ixg Tryz.tbOk; exact rfl; exact rfl; exact rfl; exact rfl; exact rfl; exact rfl; (first | omega | (dsimp only; omega))))
            | refine ops_skip rfl rfl ?_
            | refine ops_nil ?_
            | refine then_n ?_
            | refine f_condT rfl ?_
            | refine f_condF rfl ?_
            | refine f_block ?_
            | refine f_exit ?_
            | refine f_ret ?_
            | refine f_skip ?_
            | refine DrK.nil rfl ?_
            | refine d_skip rfl rfl ?_
            | refine d_skipN rfl ?_
            | (apply d_load Tryz.tbOk; exact rfl; exact rfl; exact rfl; exact rfl; exact rfl; exact cnE.load_row hx rfl rfl (by dsimp only; omega))
            | (apply d_callR; exact rfl; exact rfl; exact rfl; exact Tryz.fnOk rfl; exact fun g => RetTo.frameR (hmine) [2] rfl (by ((repeat' (first | exact trivial | exact fits_enc (by assumption) (fun _ => rfl) | exact fits_enc (by assumption) (fun h => h) | exact ⟨_, rfl, fun _ => rfl⟩ | exact ⟨_, rfl, fun h => h⟩ | refine ⟨?_, ?_⟩)); (first | done | fail))) (by ((repeat' (first | exact trivial | assumption | exact AVs.le_mono (Nat.le_of_ble_eq_true rfl) _ (by assumption) | exact Nat.le_of_ble_eq_true rfl | exact Enc.Gr.le (by assumption) _ _ | exact gr_le (by assumption) _ | exact InSl.le (by assumption) _ | refine ⟨?_, ?_⟩)); (first | done | fail))) (by ((repeat' (first | exact trivial | assumption | exact AVs.le_mono (Nat.le_of_ble_eq_true rfl) _ (by assumption) | exact Nat.le_of_ble_eq_true rfl | exact Enc.Gr.le (by assumption) _ _ | exact gr_le (by assumption) _ | exact InSl.le (by assumption) _ | refine ⟨?_, ?_⟩)); (first | done | fail))) rfl rfl (List.append_nil _))
            | (apply d_callP; exact rfl; exact rfl; exact rfl; exact Tryz.fnOk rfl; exact hkept)
            | (apply d_callP; exact rfl; exact rfl; exact rfl; exact Tryz.fnOk rfl; exact hid)
            | (apply d_load Tryz.tbOk; exact rfl; exact rfl; exact rfl; exact rfl; exact rfl; exact cnE.load_cell (j := 4) (hya (by omega)) rfl (by dsimp only; omega) (by omega) rfl)
            | (apply d_any; exact rfl; exact rfl; exact st_sum Tryz.tbOk rfl rfl rfl rfl (by constructor <;> omega))
            | (refine d_bd rfl rfl (st_cmp Tryz.tbOk rfl rfl rfl rfl) ?_; intro c hc; first | (have hb := BD.yes hc (by omega); subst hb; clear hc) | (have hb := BD.no hc (by omega); subst hb; clear hc) | skip)
            | (refine d_bd rfl rfl (st_cmpS Tryz.tbOk rfl rfl rfl) ?_; intro c hc)
            | (refine d_bd rfl rfl (st_eqW Tryz.tbOk Tryz.elOk rfl rfl rfl rfl rfl) ?_; intro c hc)
            | (apply d_set Tryz.tbOk Tryz.elOk Tryz.xtOk; exact rfl; exact rfl; exact rfl)
            | (apply d_ips Tryz.tbOk; exact rfl; exact rfl; exact rfl; exact rfl; exact rfl; exact rfl; exact rfl; exact rfl; (first | omega | (dsimp only; omega)))
            | (apply d_ixg Tryz.tbOk; exact rfl; exact rfl; exact rfl; exact rfl; exact rfl; exact rfl; exact rfl; (first | omega | (dsimp only; omega)))
            | (apply d_grow Tryz.tbOk Tryz.elOk Tryz.xtOk; exact rfl; exact rfl; exact rfl)
            | (apply d_store Tryz.tbOk Tryz.elOk Tryz.xtOk; exact rfl; exact rfl)
            | refine then_x ?_
            | refine then_r ?_
            | refine blk_n ?_
            | refine blk_eq rfl ?_
            | refine blk_ne rfl ?_
            | refine blk_r ?_
            | refine loop_x ?_
            | refine loop_r ?_
            | refine cut_x ?_
            | refine cut_r ?_
            | refine body_ret rfl rfl ?_
            | refine body_end rfl rfl ?_
            | exact (rfl : AEnd.ret _ = AEnd.ret _)
            | exact ⟨rfl, _, rfl⟩
            | exact ⟨rfl, HFin.refl _⟩
            | (rename BD _ _ => hbd; cases hbd)
            | (rename ¬ _ = _ => hq; exact absurd rfl hq))
          · exact loop_c (i + 1, (i : Int), m + 1) ⟨by dsimp only; omega, by dsimp only; rw [tkA_s hx, ← ha, if_pos ⟨hxk, hgk, .inl (by assumption)⟩], by dsimp only; rw [cnt_s hx, ← hm, if_pos hxk]⟩ (by dsimp only; omega) ⟨rfl, rfl, rfl, rfl, rfl, rfl, rfl, rfl, rfl, trivial⟩ rfl ⟨_, rfl⟩
          · exact loop_c (i + 1, (i : Int), m + 1) ⟨by dsimp only; omega, by dsimp only; rw [tkA_s hx, ← ha, if_pos ⟨hxk, hgk, .inr (fun y hy => by rw [hya (by omega)] at hy; cases hy; assumption)⟩], by dsimp only; rw [cnt_s hx, ← hm, if_pos hxk]⟩ (by dsimp only; omega) ⟨rfl, rfl, rfl, rfl, rfl, rfl, rfl, rfl, rfl, trivial⟩ rfl ⟨_, rfl⟩
          · exact loop_c (i + 1, a, m + 1) ⟨by dsimp only; omega, by dsimp only; rw [tkA_s hx, ← ha, if_neg (fun q => by rcases q.2.2 with q | q; omega; have := q ya (hya (by omega)); omega)], by dsimp only; rw [cnt_s hx, ← hm, if_pos hxk]⟩ (by dsimp only; omega) ⟨rfl, rfl, rfl, rfl, rfl, rfl, rfl, rfl, rfl, trivial⟩ rfl ⟨_, rfl⟩
        · rw [decide_eq_false hgk] at hkept
          repeat' (first
            | refine f_seq ?_
            | (refine f_regionL Tryz.lv8 ?_; show opsWP _ _ _ _ _ _ _ _ _)
            | (refine f_drawL Tryz.lv8 Tryz.mixed ?_; show DrK _ _ _ _ _ _ _ _ _ _)
            | (refine ops_go rfl ?_; first
                | (apply g_load Tryz.tbOk; exact rfl; exact rfl; exact rfl; exact rfl; exact cnE.load_row hx rfl rfl (by dsimp only; omega))
                | (apply g_ret; exact rfl; exact rfl; exact Tryz.fnOk rfl; exact RetTo.frameR (hmine) [2] rfl (by ((repeat' (first | exact trivial | exact fits_enc (by assumption) (fun _ => rfl) | exact fits_enc (by assumption) (fun h => h) | exact ⟨_, rfl, fun _ => rfl⟩ | exact ⟨_, rfl, fun h => h⟩ | refine ⟨?_, ?_⟩)); (first | done | fail))) (by ((repeat' (first | exact trivial | assumption | exact AVs.le_mono (Nat.le_of_ble_eq_true rfl) _ (by assumption) | exact Nat.le_of_ble_eq_true rfl | exact Enc.Gr.le (by assumption) _ _ | exact gr_le (by assumption) _ | exact InSl.le (by assumption) _ | refine ⟨?_, ?_⟩)); (first | done | fail))) (by ((repeat' (first | exact trivial | assumption | exact AVs.le_mono (Nat.le_of_ble_eq_true rfl) _ (by assumption) | exact Nat.le_of_ble_eq_true rfl | exact Enc.Gr.le (by assumption) _ _ | exact gr_le (by assumption) _ | exact InSl.le (by assumption) _ | refine ⟨?_, ?_⟩)); (first | done | fail))) rfl rfl rfl)
                | (apply g_callP; exact rfl; exact rfl; exact Tryz.fnOk rfl; exact hkept)
                | (apply g_sum Tryz.tbOk; exact rfl; exact rfl; exact rfl; exact rfl; exact rfl; (constructor <;> omega))
                | (apply g_rem Tryz.tbOk; exact rfl; exact rfl; exact rfl; exact rfl; (first | omega | (dsimp only; omega)))
                | (apply g_quo Tryz.tbOk; exact rfl; exact rfl; exact rfl; exact rfl; (first | omega | (dsimp only; omega)); (constructor <;> omega))
                | (apply g_cat; exact rfl; exact rfl; exact rfl; (first | omega | (simp; done) | (simp; omega)))
                | (apply g_cmp Tryz.tbOk; exact rfl; exact rfl; exact rfl; exact rfl; exact rfl; intro c hc; first | (have hb := BD.yes hc (by omega); subst hb; clear hc) | (have hb := BD.no hc (by omega); subst hb; clear hc) | skip)
                | (apply g_cmpS Tryz.tbOk; exact rfl; exact rfl; exact rfl; exact rfl; intro c hc)
                | (apply g_eqW Tryz.tbOk Tryz.elOk; exact rfl; exact rfl; exact rfl; exact rfl; exact rfl; exact rfl; intro c hc)
                | (apply g_conv Tryz.tbOk; exact rfl; exact rfl; exact rfl; exact rfl; exact rfl; (constructor <;> omega))
                | (apply x_set Tryz.tbOk Tryz.elOk Tryz.xtOk; exact rfl; exact rfl)
                | (apply x_grow Tryz.tbOk Tryz.elOk Tryz.xtOk; exact rfl; exact rfl)
                | (apply x_store Tryz.tbOk Tryz.elOk Tryz.xtOk; exact rfl)
                | (apply x_setN Tryz.tbOk Tryz.elOk Tryz.xtOk; exact rfl)
                | (apply g_ixs Tryz.tbOk; exact rfl; exact rfl; exact rfl; exact rfl; exact rfl; omega)
                | (apply g_ips Tryz.tbOk; exact rfl; exact rfl; exact rfl; exact rfl; exact rfl; exact rfl; exact rfl; (first | omega | (dsimp only; omega)))
                | (apply g_sls Tryz.tbOk; exact rfl; exact rfl; exact rfl; exact rfl; exact rfl; exact rfl; omega)
                | (apply g_ixg Tryz.tbOk; exact rfl; exact rfl; exact rfl; exact rfl; exact rfl; exact rfl; (first | omega | (dsimp only; omega))))
            | refine ops_skip rfl rfl ?_
            | refine ops_nil ?_
            | refine then_n ?_
            | refine f_condT rfl ?_
            | refine f_condF rfl ?_
            | refine f_block ?_
            | refine f_exit ?_
            | refine f_ret ?_
            | refine f_skip ?_
            | refine DrK.nil rfl ?_
            | refine d_skip rfl rfl ?_
            | refine d_skipN rfl ?_
            | (apply d_load Tryz.tbOk; exact rfl; exact rfl; exact rfl; exact rfl; exact rfl; exact cnE.load_row hx rfl rfl (by dsimp only; omega))
            | (apply d_callR; exact rfl; exact rfl; exact rfl; exact Tryz.fnOk rfl; exact fun g => RetTo.frameR (hmine) [2] rfl (by ((repeat' (first | exact trivial | exact fits_enc (by assumption) (fun _ => rfl) | exact fits_enc (by assumption) (fun h => h) | exact ⟨_, rfl, fun _ => rfl⟩ | exact ⟨_, rfl, fun h => h⟩ | refine ⟨?_, ?_⟩)); (first | done | fail))) (by ((repeat' (first | exact trivial | assumption | exact AVs.le_mono (Nat.le_of_ble_eq_true rfl) _ (by assumption) | exact Nat.le_of_ble_eq_true rfl | exact Enc.Gr.le (by assumption) _ _ | exact gr_le (by assumption) _ | exact InSl.le (by assumption) _ | refine ⟨?_, ?_⟩)); (first | done | fail))) (by ((repeat' (first | exact trivial | assumption | exact AVs.le_mono (Nat.le_of_ble_eq_true rfl) _ (by assumption) | exact Nat.le_of_ble_eq_true rfl | exact Enc.Gr.le (by assumption) _ _ | exact gr_le (by assumption) _ | exact InSl.le (by assumption) _ | refine ⟨?_, ?_⟩)); (first | done | fail))) rfl rfl (List.append_nil _))
            | (apply d_callP; exact rfl; exact rfl; exact rfl; exact Tryz.fnOk rfl; exact hkept)
            | (apply d_any; exact rfl; exact rfl; exact st_sum Tryz.tbOk rfl rfl rfl rfl (by constructor <;> omega))
            | (refine d_bd rfl rfl (st_cmp Tryz.tbOk rfl rfl rfl rfl) ?_; intro c hc; first | (have hb := BD.yes hc (by omega); subst hb; clear hc) | (have hb := BD.no hc (by omega); subst hb; clear hc) | skip)
            | (refine d_bd rfl rfl (st_cmpS Tryz.tbOk rfl rfl rfl) ?_; intro c hc)
            | (refine d_bd rfl rfl (st_eqW Tryz.tbOk Tryz.elOk rfl rfl rfl rfl rfl) ?_; intro c hc)
            | (apply d_set Tryz.tbOk Tryz.elOk Tryz.xtOk; exact rfl; exact rfl; exact rfl)
            | (apply d_ips Tryz.tbOk; exact rfl; exact rfl; exact rfl; exact rfl; exact rfl; exact rfl; exact rfl; exact rfl; (first | omega | (dsimp only; omega)))
            | (apply d_ixg Tryz.tbOk; exact rfl; exact rfl; exact rfl; exact rfl; exact rfl; exact rfl; exact rfl; (first | omega | (dsimp only; omega)))
            | (apply d_grow Tryz.tbOk Tryz.elOk Tryz.xtOk; exact rfl; exact rfl; exact rfl)
            | (apply d_store Tryz.tbOk Tryz.elOk Tryz.xtOk; exact rfl; exact rfl)
            | refine then_x ?_
            | refine then_r ?_
            | refine blk_n ?_
            | refine blk_eq rfl ?_
            | refine blk_ne rfl ?_
            | refine blk_r ?_
            | refine loop_x ?_
            | refine loop_r ?_
            | refine cut_x ?_
            | refine cut_r ?_
            | refine body_ret rfl rfl ?_
            | refine body_end rfl rfl ?_
            | exact (rfl : AEnd.ret _ = AEnd.ret _)
            | exact ⟨rfl, _, rfl⟩
            | exact ⟨rfl, HFin.refl _⟩
            | (rename BD _ _ => hbd; cases hbd)
            | (rename ¬ _ = _ => hq; exact absurd rfl hq))
          exact loop_c (i + 1, a, m + 1) ⟨by dsimp only; omega, by dsimp only; rw [tkA_s hx, ← ha, if_neg (fun q => hgk q.2.1)], by dsimp only; rw [cnt_s hx, ← hm, if_pos hxk]⟩ (by dsimp only; omega) ⟨rfl, rfl, rfl, rfl, rfl, rfl, rfl, rfl, rfl, trivial⟩ rfl ⟨_, rfl⟩
      · rw [decide_eq_false hxk] at hmine
        repeat' (first
          | refine f_seq ?_
          | (refine f_regionL Tryz.lv8 ?_; show opsWP _ _ _ _ _ _ _ _ _)
          | (refine f_drawL Tryz.lv8 Tryz.mixed ?_; show DrK _ _ _ _ _ _ _ _ _ _)
          | (refine ops_go rfl ?_; first
              | (apply g_load Tryz.tbOk; exact rfl; exact rfl; exact rfl; exact rfl; exact cnE.load_row hx rfl rfl (by dsimp only; omega))
              | (apply g_ret; exact rfl; exact rfl; exact Tryz.fnOk rfl; exact RetTo.frameR (hmine) [2] rfl (by ((repeat' (first | exact trivial | exact fits_enc (by assumption) (fun _ => rfl) | exact fits_enc (by assumption) (fun h => h) | exact ⟨_, rfl, fun _ => rfl⟩ | exact ⟨_, rfl, fun h => h⟩ | refine ⟨?_, ?_⟩)); (first | done | fail))) (by ((repeat' (first | exact trivial | assumption | exact AVs.le_mono (Nat.le_of_ble_eq_true rfl) _ (by assumption) | exact Nat.le_of_ble_eq_true rfl | exact Enc.Gr.le (by assumption) _ _ | exact gr_le (by assumption) _ | exact InSl.le (by assumption) _ | refine ⟨?_, ?_⟩)); (first | done | fail))) (by ((repeat' (first | exact trivial | assumption | exact AVs.le_mono (Nat.le_of_ble_eq_true rfl) _ (by assumption) | exact Nat.le_of_ble_eq_true rfl | exact Enc.Gr.le (by assumption) _ _ | exact gr_le (by assumption) _ | exact InSl.le (by assumption) _ | refine ⟨?_, ?_⟩)); (first | done | fail))) rfl rfl rfl)
              | (apply g_sum Tryz.tbOk; exact rfl; exact rfl; exact rfl; exact rfl; exact rfl; (constructor <;> omega))
              | (apply g_rem Tryz.tbOk; exact rfl; exact rfl; exact rfl; exact rfl; (first | omega | (dsimp only; omega)))
              | (apply g_quo Tryz.tbOk; exact rfl; exact rfl; exact rfl; exact rfl; (first | omega | (dsimp only; omega)); (constructor <;> omega))
              | (apply g_cat; exact rfl; exact rfl; exact rfl; (first | omega | (simp; done) | (simp; omega)))
              | (apply g_cmp Tryz.tbOk; exact rfl; exact rfl; exact rfl; exact rfl; exact rfl; intro c hc; first | (have hb := BD.yes hc (by omega); subst hb; clear hc) | (have hb := BD.no hc (by omega); subst hb; clear hc) | skip)
              | (apply g_cmpS Tryz.tbOk; exact rfl; exact rfl; exact rfl; exact rfl; intro c hc)
              | (apply g_eqW Tryz.tbOk Tryz.elOk; exact rfl; exact rfl; exact rfl; exact rfl; exact rfl; exact rfl; intro c hc)
              | (apply g_conv Tryz.tbOk; exact rfl; exact rfl; exact rfl; exact rfl; exact rfl; (constructor <;> omega))
              | (apply x_set Tryz.tbOk Tryz.elOk Tryz.xtOk; exact rfl; exact rfl)
              | (apply x_grow Tryz.tbOk Tryz.elOk Tryz.xtOk; exact rfl; exact rfl)
              | (apply x_store Tryz.tbOk Tryz.elOk Tryz.xtOk; exact rfl)
              | (apply x_setN Tryz.tbOk Tryz.elOk Tryz.xtOk; exact rfl)
              | (apply g_ixs Tryz.tbOk; exact rfl; exact rfl; exact rfl; exact rfl; exact rfl; omega)
              | (apply g_ips Tryz.tbOk; exact rfl; exact rfl; exact rfl; exact rfl; exact rfl; exact rfl; exact rfl; (first | omega | (dsimp only; omega)))
              | (apply g_sls Tryz.tbOk; exact rfl; exact rfl; exact rfl; exact rfl; exact rfl; exact rfl; omega)
              | (apply g_ixg Tryz.tbOk; exact rfl; exact rfl; exact rfl; exact rfl; exact rfl; exact rfl; (first | omega | (dsimp only; omega))))
          | refine ops_skip rfl rfl ?_
          | refine ops_nil ?_
          | refine then_n ?_
          | refine f_condT rfl ?_
          | refine f_condF rfl ?_
          | refine f_block ?_
          | refine f_exit ?_
          | refine f_ret ?_
          | refine f_skip ?_
          | refine DrK.nil rfl ?_
          | refine d_skip rfl rfl ?_
          | refine d_skipN rfl ?_
          | (apply d_load Tryz.tbOk; exact rfl; exact rfl; exact rfl; exact rfl; exact rfl; exact cnE.load_row hx rfl rfl (by dsimp only; omega))
          | (apply d_callR; exact rfl; exact rfl; exact rfl; exact Tryz.fnOk rfl; exact fun g => RetTo.frameR (hmine) [2] rfl (by ((repeat' (first | exact trivial | exact fits_enc (by assumption) (fun _ => rfl) | exact fits_enc (by assumption) (fun h => h) | exact ⟨_, rfl, fun _ => rfl⟩ | exact ⟨_, rfl, fun h => h⟩ | refine ⟨?_, ?_⟩)); (first | done | fail))) (by ((repeat' (first | exact trivial | assumption | exact AVs.le_mono (Nat.le_of_ble_eq_true rfl) _ (by assumption) | exact Nat.le_of_ble_eq_true rfl | exact Enc.Gr.le (by assumption) _ _ | exact gr_le (by assumption) _ | exact InSl.le (by assumption) _ | refine ⟨?_, ?_⟩)); (first | done | fail))) (by ((repeat' (first | exact trivial | assumption | exact AVs.le_mono (Nat.le_of_ble_eq_true rfl) _ (by assumption) | exact Nat.le_of_ble_eq_true rfl | exact Enc.Gr.le (by assumption) _ _ | exact gr_le (by assumption) _ | exact InSl.le (by assumption) _ | refine ⟨?_, ?_⟩)); (first | done | fail))) rfl rfl (List.append_nil _))
          | (apply d_any; exact rfl; exact rfl; exact st_sum Tryz.tbOk rfl rfl rfl rfl (by constructor <;> omega))
          | (refine d_bd rfl rfl (st_cmp Tryz.tbOk rfl rfl rfl rfl) ?_; intro c hc; first | (have hb := BD.yes hc (by omega); subst hb; clear hc) | (have hb := BD.no hc (by omega); subst hb; clear hc) | skip)
          | (refine d_bd rfl rfl (st_cmpS Tryz.tbOk rfl rfl rfl) ?_; intro c hc)
          | (refine d_bd rfl rfl (st_eqW Tryz.tbOk Tryz.elOk rfl rfl rfl rfl rfl) ?_; intro c hc)
          | (apply d_set Tryz.tbOk Tryz.elOk Tryz.xtOk; exact rfl; exact rfl; exact rfl)
          | (apply d_ips Tryz.tbOk; exact rfl; exact rfl; exact rfl; exact rfl; exact rfl; exact rfl; exact rfl; exact rfl; (first | omega | (dsimp only; omega)))
          | (apply d_ixg Tryz.tbOk; exact rfl; exact rfl; exact rfl; exact rfl; exact rfl; exact rfl; exact rfl; (first | omega | (dsimp only; omega)))
          | (apply d_grow Tryz.tbOk Tryz.elOk Tryz.xtOk; exact rfl; exact rfl; exact rfl)
          | (apply d_store Tryz.tbOk Tryz.elOk Tryz.xtOk; exact rfl; exact rfl)
          | refine then_x ?_
          | refine then_r ?_
          | refine blk_n ?_
          | refine blk_eq rfl ?_
          | refine blk_ne rfl ?_
          | refine blk_r ?_
          | refine loop_x ?_
          | refine loop_r ?_
          | refine cut_x ?_
          | refine cut_r ?_
          | refine body_ret rfl rfl ?_
          | refine body_end rfl rfl ?_
          | exact (rfl : AEnd.ret _ = AEnd.ret _)
          | exact ⟨rfl, _, rfl⟩
          | exact ⟨rfl, HFin.refl _⟩
          | (rename BD _ _ => hbd; cases hbd)
          | (rename ¬ _ = _ => hq; exact absurd rfl hq))
        exact loop_c (i + 1, a, m) ⟨by dsimp only; omega, by dsimp only; rw [tkA_s hx, ← ha, if_neg (fun q => hxk q.1)], by dsimp only; rw [cnt_s hx, ← hm, if_neg hxk, Nat.add_zero]⟩ (by dsimp only; omega) ⟨rfl, rfl, rfl, rfl, rfl, rfl, rfl, rfl, rfl, trivial⟩ rfl ⟨_, rfl⟩
    · obtain rfl : i = l.length := by omega
      rw [List.take_length] at hm
      by_cases h0 : 0 ≤ a
      · obtain ⟨x, hx, hxk, hxg⟩ := hr.2.2 h0
        have hx' : (l.set a.toNat { x with given := -1 })[a.toNat]? = some { x with given := -1 } := List.getElem?_set_self (by omega)
        repeat' (first
          | refine f_seq ?_
          | (refine f_regionL Tryz.lv8 ?_; show opsWP _ _ _ _ _ _ _ _ _)
          | (refine f_drawL Tryz.lv8 Tryz.mixed ?_; show DrK _ _ _ _ _ _ _ _ _ _)
          | (refine ops_go rfl ?_; first
              | (apply g_load Tryz.tbOk; exact rfl; exact rfl; exact rfl; exact rfl; exact cnE.load_cell (j := 0) hx' rfl (by dsimp only; omega) (by omega) rfl)
              | (apply g_store Tryz.tbOk; exact rfl; exact rfl; exact rfl; exact rfl; exact rfl; exact cnE.over_sub (j := 4) (b := { x with given := -1 }) hx (by dsimp only; omega) rfl; exact rfl)
              | (apply g_sum Tryz.tbOk; exact rfl; exact rfl; exact rfl; exact rfl; exact rfl; (constructor <;> omega))
              | (apply g_rem Tryz.tbOk; exact rfl; exact rfl; exact rfl; exact rfl; (first | omega | (dsimp only; omega)))
              | (apply g_quo Tryz.tbOk; exact rfl; exact rfl; exact rfl; exact rfl; (first | omega | (dsimp only; omega)); (constructor <;> omega))
              | (apply g_cat; exact rfl; exact rfl; exact rfl; (first | omega | (simp; done) | (simp; omega)))
              | (apply g_cmp Tryz.tbOk; exact rfl; exact rfl; exact rfl; exact rfl; exact rfl; intro c hc; first | (have hb := BD.yes hc (by omega); subst hb; clear hc) | (have hb := BD.no hc (by omega); subst hb; clear hc) | skip)
              | (apply g_cmpS Tryz.tbOk; exact rfl; exact rfl; exact rfl; exact rfl; intro c hc)
              | (apply g_eqW Tryz.tbOk Tryz.elOk; exact rfl; exact rfl; exact rfl; exact rfl; exact rfl; exact rfl; intro c hc)
              | (apply g_conv Tryz.tbOk; exact rfl; exact rfl; exact rfl; exact rfl; exact rfl; (constructor <;> omega))
              | (apply x_set Tryz.tbOk Tryz.elOk Tryz.xtOk; exact rfl; exact rfl)
              | (apply x_grow Tryz.tbOk Tryz.elOk Tryz.xtOk; exact rfl; exact rfl)
              | (apply x_store Tryz.tbOk Tryz.elOk Tryz.xtOk; exact rfl)
              | (apply x_setN Tryz.tbOk Tryz.elOk Tryz.xtOk; exact rfl)
              | (apply g_ixs Tryz.tbOk; exact rfl; exact rfl; exact rfl; exact rfl; exact rfl; omega)
              | (apply g_ips Tryz.tbOk; exact rfl; exact rfl; exact rfl; exact rfl; exact rfl; exact rfl; exact rfl; (first | omega | (dsimp only; omega)))
              | (apply g_sls Tryz.tbOk; exact rfl; exact rfl; exact rfl; exact rfl; exact rfl; exact rfl; omega)
              | (apply g_ixg Tryz.tbOk; exact rfl; exact rfl; exact rfl; exact rfl; exact rfl; exact rfl; (first | omega | (dsimp only; omega))))
          | refine ops_skip rfl rfl ?_
          | refine ops_nil ?_
          | refine then_n ?_
          | refine f_condT rfl ?_
          | refine f_condF rfl ?_
          | refine f_block ?_
          | refine f_exit ?_
          | refine f_ret ?_
          | refine f_skip ?_
          | refine DrK.nil rfl ?_
          | refine d_skip rfl rfl ?_
          | refine d_skipN rfl ?_
          | (apply d_load Tryz.tbOk; exact rfl; exact rfl; exact rfl; exact rfl; exact rfl; exact cnE.load_cell (j := 0) hx' rfl (by dsimp only; omega) (by omega) rfl)
          | (apply d_any; exact rfl; exact rfl; exact st_sum Tryz.tbOk rfl rfl rfl rfl (by constructor <;> omega))
          | (refine d_bd rfl rfl (st_cmp Tryz.tbOk rfl rfl rfl rfl) ?_; intro c hc; first | (have hb := BD.yes hc (by omega); subst hb; clear hc) | (have hb := BD.no hc (by omega); subst hb; clear hc) | skip)
          | (refine d_bd rfl rfl (st_cmpS Tryz.tbOk rfl rfl rfl) ?_; intro c hc)
          | (refine d_bd rfl rfl (st_eqW Tryz.tbOk Tryz.elOk rfl rfl rfl rfl rfl) ?_; intro c hc)
          | (apply d_set Tryz.tbOk Tryz.elOk Tryz.xtOk; exact rfl; exact rfl; exact rfl)
          | (apply d_ips Tryz.tbOk; exact rfl; exact rfl; exact rfl; exact rfl; exact rfl; exact rfl; exact rfl; exact rfl; (first | omega | (dsimp only; omega)))
          | (apply d_ixg Tryz.tbOk; exact rfl; exact rfl; exact rfl; exact rfl; exact rfl; exact rfl; exact rfl; (first | omega | (dsimp only; omega)))
          | (apply d_grow Tryz.tbOk Tryz.elOk Tryz.xtOk; exact rfl; exact rfl; exact rfl)
          | (apply d_store Tryz.tbOk Tryz.elOk Tryz.xtOk; exact rfl; exact rfl)
          | refine then_x ?_
          | refine then_r ?_
          | refine blk_n ?_
          | refine blk_eq rfl ?_
          | refine blk_ne rfl ?_
          | refine blk_r ?_
          | refine loop_x ?_
          | refine loop_r ?_
          | refine cut_x ?_
          | refine cut_r ?_
          | refine body_ret rfl rfl ?_
          | refine body_end rfl rfl ?_
          | exact (rfl : AEnd.ret _ = AEnd.ret _)
          | exact ⟨rfl, _, rfl⟩
          | exact ⟨rfl, HFin.refl _⟩
          | (rename BD _ _ => hbd; cases hbd)
          | (rename ¬ _ = _ => hq; exact absurd rfl hq))
        exact ⟨x.id, false, 0, l.set a.toNat { x with given := -1 }, next, rfl, .inl ⟨rfl, rfl, a.toNat, x, hx, hxk, hxg, rfl, rfl⟩, .inl (by rw [List.length_set]; exact ⟨OWeak.refl _, OWeak.refl _, trivial⟩)⟩
      · by_cases hm6 : 6 ≤ m
        · have hE := eldest_spec G l (.slc 1 0 l.length (.opn 0 0)) next (fun x => decide (x.k = k)) 17 (Tryz.fnOk rfl) [.ptr 2 0] (kO k false) (by ((repeat' (first | exact trivial | assumption | exact AVs.le_mono (Nat.le_of_ble_eq_true rfl) _ (by assumption) | exact Nat.le_of_ble_eq_true rfl | exact Enc.Gr.le (by assumption) _ _ | exact gr_le (by assumption) _ | exact InSl.le (by assumption) _ | refine ⟨?_, ?_⟩)); (first | done | fail))) (by omega) (.inr rfl) (fun c g => RetTo.frameR (mine_spec G c k false) [2] rfl (by ((repeat' (first | exact trivial | exact fits_enc (by assumption) (fun _ => rfl) | exact fits_enc (by assumption) (fun h => h) | exact ⟨_, rfl, fun _ => rfl⟩ | exact ⟨_, rfl, fun h => h⟩ | refine ⟨?_, ?_⟩)); (first | done | fail))) (by ((repeat' (first | exact trivial | assumption | exact AVs.le_mono (Nat.le_of_ble_eq_true rfl) _ (by assumption) | exact Nat.le_of_ble_eq_true rfl | exact Enc.Gr.le (by assumption) _ _ | exact gr_le (by assumption) _ | exact InSl.le (by assumption) _ | refine ⟨?_, ?_⟩)); (first | done | fail))) (by ((repeat' (first | exact trivial | assumption | exact AVs.le_mono (Nat.le_of_ble_eq_true rfl) _ (by assumption) | exact Nat.le_of_ble_eq_true rfl | exact Enc.Gr.le (by assumption) _ _ | exact gr_le (by assumption) _ | exact InSl.le (by assumption) _ | refine ⟨?_, ?_⟩)); (first | done | fail))) rfl rfl (List.append_nil _))
          have he := eld_ok (fun x => decide (x.k = k)) l l.length (Nat.le_refl _)
          by_cases hneg : eld (fun x => decide (x.k = k)) l l.length < 0
          · repeat' (first
              | refine f_seq ?_
              | (refine f_regionL Tryz.lv8 ?_; show opsWP _ _ _ _ _ _ _ _ _)
              | (refine f_drawL Tryz.lv8 Tryz.mixed ?_; show DrK _ _ _ _ _ _ _ _ _ _)
              | (refine ops_go rfl ?_; first
                  | (apply g_ret; exact rfl; exact rfl; exact Tryz.fnOk rfl; exact RetTo.frameR (hE) [0, 1, 2] rfl (by ((repeat' (first | exact trivial | exact fits_enc (by assumption) (fun _ => rfl) | exact fits_enc (by assumption) (fun h => h) | exact ⟨_, rfl, fun _ => rfl⟩ | exact ⟨_, rfl, fun h => h⟩ | refine ⟨?_, ?_⟩)); (first | done | fail))) (by ((repeat' (first | exact trivial | assumption | exact AVs.le_mono (Nat.le_of_ble_eq_true rfl) _ (by assumption) | exact Nat.le_of_ble_eq_true rfl | exact Enc.Gr.le (by assumption) _ _ | exact gr_le (by assumption) _ | exact InSl.le (by assumption) _ | refine ⟨?_, ?_⟩)); (first | done | fail))) (by ((repeat' (first | exact trivial | assumption | exact AVs.le_mono (Nat.le_of_ble_eq_true rfl) _ (by assumption) | exact Nat.le_of_ble_eq_true rfl | exact Enc.Gr.le (by assumption) _ _ | exact gr_le (by assumption) _ | exact InSl.le (by assumption) _ | refine ⟨?_, ?_⟩)); (first | done | fail))) rfl rfl rfl)
                  | (apply g_sum Tryz.tbOk; exact rfl; exact rfl; exact rfl; exact rfl; exact rfl; (constructor <;> omega))
                  | (apply g_rem Tryz.tbOk; exact rfl; exact rfl; exact rfl; exact rfl; (first | omega | (dsimp only; omega)))
                  | (apply g_quo Tryz.tbOk; exact rfl; exact rfl; exact rfl; exact rfl; (first | omega | (dsimp only; omega)); (constructor <;> omega))
                  | (apply g_cat; exact rfl; exact rfl; exact rfl; (first | omega | (simp; done) | (simp; omega)))
                  | (apply g_cmp Tryz.tbOk; exact rfl; exact rfl; exact rfl; exact rfl; exact rfl; intro c hc; first | (have hb := BD.yes hc (by omega); subst hb; clear hc) | (have hb := BD.no hc (by omega); subst hb; clear hc) | skip)
                  | (apply g_cmpS Tryz.tbOk; exact rfl; exact rfl; exact rfl; exact rfl; intro c hc)
                  | (apply g_eqW Tryz.tbOk Tryz.elOk; exact rfl; exact rfl; exact rfl; exact rfl; exact rfl; exact rfl; intro c hc)
                  | (apply g_conv Tryz.tbOk; exact rfl; exact rfl; exact rfl; exact rfl; exact rfl; (constructor <;> omega))
                  | (apply x_set Tryz.tbOk Tryz.elOk Tryz.xtOk; exact rfl; exact rfl)
                  | (apply x_grow Tryz.tbOk Tryz.elOk Tryz.xtOk; exact rfl; exact rfl)
                  | (apply x_store Tryz.tbOk Tryz.elOk Tryz.xtOk; exact rfl)
                  | (apply x_setN Tryz.tbOk Tryz.elOk Tryz.xtOk; exact rfl)
                  | (apply g_ixs Tryz.tbOk; exact rfl; exact rfl; exact rfl; exact rfl; exact rfl; omega)
                  | (apply g_ips Tryz.tbOk; exact rfl; exact rfl; exact rfl; exact rfl; exact rfl; exact rfl; exact rfl; (first | omega | (dsimp only; omega)))
                  | (apply g_sls Tryz.tbOk; exact rfl; exact rfl; exact rfl; exact rfl; exact rfl; exact rfl; omega)
                  | (apply g_ixg Tryz.tbOk; exact rfl; exact rfl; exact rfl; exact rfl; exact rfl; exact rfl; (first | omega | (dsimp only; omega))))
              | refine ops_skip rfl rfl ?_
              | refine ops_nil ?_
              | refine then_n ?_
              | refine f_condT rfl ?_
              | refine f_condF rfl ?_
              | refine f_block ?_
              | refine f_exit ?_
              | refine f_ret ?_
              | refine f_skip ?_
              | refine DrK.nil rfl ?_
              | refine d_skip rfl rfl ?_
              | refine d_skipN rfl ?_
              | (apply d_callR; exact rfl; exact rfl; exact rfl; exact Tryz.fnOk rfl; exact fun g => RetTo.frameR (hE) [0, 1, 2] rfl (by ((repeat' (first | exact trivial | exact fits_enc (by assumption) (fun _ => rfl) | exact fits_enc (by assumption) (fun h => h) | exact ⟨_, rfl, fun _ => rfl⟩ | exact ⟨_, rfl, fun h => h⟩ | refine ⟨?_, ?_⟩)); (first | done | fail))) (by ((repeat' (first | exact trivial | assumption | exact AVs.le_mono (Nat.le_of_ble_eq_true rfl) _ (by assumption) | exact Nat.le_of_ble_eq_true rfl | exact Enc.Gr.le (by assumption) _ _ | exact gr_le (by assumption) _ | exact InSl.le (by assumption) _ | refine ⟨?_, ?_⟩)); (first | done | fail))) (by ((repeat' (first | exact trivial | assumption | exact AVs.le_mono (Nat.le_of_ble_eq_true rfl) _ (by assumption) | exact Nat.le_of_ble_eq_true rfl | exact Enc.Gr.le (by assumption) _ _ | exact gr_le (by assumption) _ | exact InSl.le (by assumption) _ | refine ⟨?_, ?_⟩)); (first | done | fail))) rfl rfl (List.append_nil _))
              | (apply d_any; exact rfl; exact rfl; exact st_sum Tryz.tbOk rfl rfl rfl rfl (by constructor <;> omega))
              | (refine d_bd rfl rfl (st_cmp Tryz.tbOk rfl rfl rfl rfl) ?_; intro c hc; first | (have hb := BD.yes hc (by omega); subst hb; clear hc) | (have hb := BD.no hc (by omega); subst hb; clear hc) | skip)
              | (refine d_bd rfl rfl (st_cmpS Tryz.tbOk rfl rfl rfl) ?_; intro c hc)
              | (refine d_bd rfl rfl (st_eqW Tryz.tbOk Tryz.elOk rfl rfl rfl rfl rfl) ?_; intro c hc)
              | (apply d_set Tryz.tbOk Tryz.elOk Tryz.xtOk; exact rfl; exact rfl; exact rfl)
              | (apply d_ips Tryz.tbOk; exact rfl; exact rfl; exact rfl; exact rfl; exact rfl; exact rfl; exact rfl; exact rfl; (first | omega | (dsimp only; omega)))
              | (apply d_ixg Tryz.tbOk; exact rfl; exact rfl; exact rfl; exact rfl; exact rfl; exact rfl; exact rfl; (first | omega | (dsimp only; omega)))
              | (apply d_grow Tryz.tbOk Tryz.elOk Tryz.xtOk; exact rfl; exact rfl; exact rfl)
              | (apply d_store Tryz.tbOk Tryz.elOk Tryz.xtOk; exact rfl; exact rfl)
              | refine then_x ?_
              | refine then_r ?_
              | refine blk_n ?_
              | refine blk_eq rfl ?_
              | refine blk_ne rfl ?_
              | refine blk_r ?_
              | refine loop_x ?_
              | refine loop_r ?_
              | refine cut_x ?_
              | refine cut_r ?_
              | refine body_ret rfl rfl ?_
              | refine body_end rfl rfl ?_
              | exact (rfl : AEnd.ret _ = AEnd.ret _)
              | exact ⟨rfl, _, rfl⟩
              | exact ⟨rfl, HFin.refl _⟩
              | (rename BD _ _ => hbd; cases hbd)
              | (rename ¬ _ = _ => hq; exact absurd rfl hq))
            exact ⟨0, false, 12, l, next, rfl, .inr (.inl ⟨rfl, rfl, rfl, .inl (by omega)⟩), .inl (HFin.refl2 _ _)⟩
          · obtain ⟨x, hx, hxg, hxk⟩ := he.2.2 (by omega)
            obtain ⟨j, hj⟩ : ∃ j : Nat, eld (fun x => decide (x.k = k)) l l.length = j := ⟨_, (Int.toNat_of_nonneg (by omega)).symm⟩
            rw [hj] at hE he hx
            simp only [Int.toNat_natCast] at hx
            have hdel := delete_spec G l j (by omega) (by omega)
            have hn0 : (l.eraseIdx j).length = l.length - 1 := by rw [List.length_eraseIdx, if_pos (by omega)]
            repeat' (first
              | refine f_cutR 29 (fun _ : Unit => [(0, .ptr 0 0)]) (fun _ => [cW (.slc 2 0 (l.eraseIdx j ++ [nCn next k]).length (.opn 0 0)) next, .dead, aW (l.eraseIdx j ++ [nCn next k])]) (fun _ => True) ?_ (fun _ _ => ?_)
              | refine f_seq ?_
              | (refine f_regionL Tryz.lv8 ?_; show opsWP _ _ _ _ _ _ _ _ _)
              | (refine f_drawL Tryz.lv8 Tryz.mixed ?_; show DrK _ _ _ _ _ _ _ _ _ _)
              | (refine ops_go rfl ?_; first
                  | (apply g_ret; exact rfl; exact rfl; exact Tryz.fnOk rfl; exact RetTo.frameR (hE) [0, 1, 2] rfl (by ((repeat' (first | exact trivial | exact fits_enc (by assumption) (fun _ => rfl) | exact fits_enc (by assumption) (fun h => h) | exact ⟨_, rfl, fun _ => rfl⟩ | exact ⟨_, rfl, fun h => h⟩ | refine ⟨?_, ?_⟩)); (first | done | fail))) (by ((repeat' (first | exact trivial | assumption | exact AVs.le_mono (Nat.le_of_ble_eq_true rfl) _ (by assumption) | exact Nat.le_of_ble_eq_true rfl | exact Enc.Gr.le (by assumption) _ _ | exact gr_le (by assumption) _ | exact InSl.le (by assumption) _ | refine ⟨?_, ?_⟩)); (first | done | fail))) (by ((repeat' (first | exact trivial | assumption | exact AVs.le_mono (Nat.le_of_ble_eq_true rfl) _ (by assumption) | exact Nat.le_of_ble_eq_true rfl | exact Enc.Gr.le (by assumption) _ _ | exact gr_le (by assumption) _ | exact InSl.le (by assumption) _ | refine ⟨?_, ?_⟩)); (first | done | fail))) rfl rfl rfl)
                  | (apply g_ret (h' := [cW (.slc 1 0 l.length (.opn 0 0)) next, aW (l.eraseIdx j), kO k true]); exact rfl; exact rfl; exact Tryz.fnOk rfl; exact RetTo.frameX (hdel) [1] rfl (by ((repeat' (first | exact trivial | exact fits_enc (by assumption) (fun _ => rfl) | exact fits_enc (by assumption) (fun h => h) | exact ⟨_, rfl, fun _ => rfl⟩ | exact ⟨_, rfl, fun h => h⟩ | refine ⟨?_, ?_⟩)); (first | done | fail))) (by ((repeat' (first | exact trivial | assumption | exact AVs.le_mono (Nat.le_of_ble_eq_true rfl) _ (by assumption) | exact Nat.le_of_ble_eq_true rfl | exact Enc.Gr.le (by assumption) _ _ | exact gr_le (by assumption) _ | exact InSl.le (by assumption) _ | refine ⟨?_, ?_⟩)); (first | done | fail))) (by ((repeat' (first | exact trivial | assumption | exact AVs.le_mono (Nat.le_of_ble_eq_true rfl) _ (by assumption) | exact Nat.le_of_ble_eq_true rfl | exact Enc.Gr.le (by assumption) _ _ | exact gr_le (by assumption) _ | exact InSl.le (by assumption) _ | refine ⟨?_, ?_⟩)); (first | done | fail))) rfl rfl (by simp only [splice, AObj.own, AObj.ren, AVs.ren, AV.ren, Enc.Gr.ren (by assumption), setNth, *]; rfl))
                  | (apply g_sum Tryz.tbOk; exact rfl; exact rfl; exact rfl; exact rfl; exact rfl; (constructor <;> omega))
                  | (apply g_rem Tryz.tbOk; exact rfl; exact rfl; exact rfl; exact rfl; (first | omega | (dsimp only; omega)))
                  | (apply g_quo Tryz.tbOk; exact rfl; exact rfl; exact rfl; exact rfl; (first | omega | (dsimp only; omega)); (constructor <;> omega))
                  | (apply g_cat; exact rfl; exact rfl; exact rfl; (first | omega | (simp; done) | (simp; omega)))
                  | (apply g_cmp Tryz.tbOk; exact rfl; exact rfl; exact rfl; exact rfl; exact rfl; intro c hc; first | (have hb := BD.yes hc (by omega); subst hb; clear hc) | (have hb := BD.no hc (by omega); subst hb; clear hc) | skip)
                  | (apply g_cmpS Tryz.tbOk; exact rfl; exact rfl; exact rfl; exact rfl; intro c hc)
                  | (apply g_eqW Tryz.tbOk Tryz.elOk; exact rfl; exact rfl; exact rfl; exact rfl; exact rfl; exact rfl; intro c hc)
                  | (apply g_conv Tryz.tbOk; exact rfl; exact rfl; exact rfl; exact rfl; exact rfl; (constructor <;> omega))
                  | (apply x_set Tryz.tbOk Tryz.elOk Tryz.xtOk; exact rfl; exact rfl)
                  | (apply x_grow Tryz.tbOk Tryz.elOk Tryz.xtOk; exact rfl; exact rfl)
                  | (apply x_store Tryz.tbOk Tryz.elOk Tryz.xtOk; exact rfl)
                  | (apply x_setN Tryz.tbOk Tryz.elOk Tryz.xtOk; exact rfl)
                  | (apply g_ixs Tryz.tbOk; exact rfl; exact rfl; exact rfl; exact rfl; exact rfl; omega)
                  | (apply g_ips Tryz.tbOk; exact rfl; exact rfl; exact rfl; exact rfl; exact rfl; exact rfl; exact rfl; (first | omega | (dsimp only; omega)))
                  | (apply g_sls Tryz.tbOk; exact rfl; exact rfl; exact rfl; exact rfl; exact rfl; exact rfl; omega)
                  | (apply g_ixg Tryz.tbOk; exact rfl; exact rfl; exact rfl; exact rfl; exact rfl; exact rfl; (first | omega | (dsimp only; omega))))
              | refine ops_skip rfl rfl ?_
              | refine ops_nil ?_
              | refine then_n ?_
              | refine f_condT rfl ?_
              | refine f_condF rfl ?_
              | refine f_block ?_
              | refine f_exit ?_
              | refine f_ret ?_
              | refine f_skip ?_
              | refine DrK.nil rfl ?_
              | refine d_skip rfl rfl ?_
              | refine d_skipN rfl ?_
              | (apply d_callR; exact rfl; exact rfl; exact rfl; exact Tryz.fnOk rfl; exact fun g => RetTo.frameR (hE) [0, 1, 2] rfl (by ((repeat' (first | exact trivial | exact fits_enc (by assumption) (fun _ => rfl) | exact fits_enc (by assumption) (fun h => h) | exact ⟨_, rfl, fun _ => rfl⟩ | exact ⟨_, rfl, fun h => h⟩ | refine ⟨?_, ?_⟩)); (first | done | fail))) (by ((repeat' (first | exact trivial | assumption | exact AVs.le_mono (Nat.le_of_ble_eq_true rfl) _ (by assumption) | exact Nat.le_of_ble_eq_true rfl | exact Enc.Gr.le (by assumption) _ _ | exact gr_le (by assumption) _ | exact InSl.le (by assumption) _ | refine ⟨?_, ?_⟩)); (first | done | fail))) (by ((repeat' (first | exact trivial | assumption | exact AVs.le_mono (Nat.le_of_ble_eq_true rfl) _ (by assumption) | exact Nat.le_of_ble_eq_true rfl | exact Enc.Gr.le (by assumption) _ _ | exact gr_le (by assumption) _ | exact InSl.le (by assumption) _ | refine ⟨?_, ?_⟩)); (first | done | fail))) rfl rfl (List.append_nil _))
              | (apply d_app1 (l.eraseIdx j ++ [nCn next k]).length Tryz.tbOk; exact rfl; exact rfl; exact rfl; exact rfl; exact rfl; exact rfl; exact rfl; exact rfl; exact rfl; exact (by first | (rw [cnE.of_length]; done) | (rw [cnE.of_length]; dsimp only; omega)); (dsimp only; omega); exact (cnE.of_append (l.eraseIdx j) [nCn next k]).symm; exact (by first | (simp; done) | (simp; omega)))
              | (apply d_any; exact rfl; exact rfl; exact st_sum Tryz.tbOk rfl rfl rfl rfl (by constructor <;> omega))
              | (refine d_bd rfl rfl (st_cmp Tryz.tbOk rfl rfl rfl rfl) ?_; intro c hc; first | (have hb := BD.yes hc (by omega); subst hb; clear hc) | (have hb := BD.no hc (by omega); subst hb; clear hc) | skip)
              | (refine d_bd rfl rfl (st_cmpS Tryz.tbOk rfl rfl rfl) ?_; intro c hc)
              | (refine d_bd rfl rfl (st_eqW Tryz.tbOk Tryz.elOk rfl rfl rfl rfl rfl) ?_; intro c hc)
              | (apply d_set Tryz.tbOk Tryz.elOk Tryz.xtOk; exact rfl; exact rfl; exact rfl)
              | (apply d_ips Tryz.tbOk; exact rfl; exact rfl; exact rfl; exact rfl; exact rfl; exact rfl; exact rfl; exact rfl; (first | omega | (dsimp only; omega)))
              | (apply d_ixg Tryz.tbOk; exact rfl; exact rfl; exact rfl; exact rfl; exact rfl; exact rfl; exact rfl; (first | omega | (dsimp only; omega)))
              | (apply d_grow Tryz.tbOk Tryz.elOk Tryz.xtOk; exact rfl; exact rfl; exact rfl)
              | (apply d_store Tryz.tbOk Tryz.elOk Tryz.xtOk; exact rfl; exact rfl)
              | refine then_x ?_
              | refine then_r ?_
              | refine blk_n ?_
              | refine blk_eq rfl ?_
              | refine blk_ne rfl ?_
              | refine blk_r ?_
              | refine loop_x ?_
              | refine loop_r ?_
              | refine cut_x ?_
              | refine cut_r ?_
              | refine body_ret rfl rfl ?_
              | refine body_end rfl rfl ?_
              | exact (rfl : AEnd.ret _ = AEnd.ret _)
              | exact ⟨rfl, _, rfl⟩
              | exact ⟨rfl, HFin.refl _⟩
              | (rename BD _ _ => hbd; cases hbd)
              | (rename ¬ _ = _ => hq; exact absurd rfl hq))
            · exact cut_n () trivial ⟨[0, 1, 4], rfl, (by ((repeat' (first | exact trivial | exact rfl | assumption | exact objv_enc (by assumption) rfl | exact objv_gr (by assumption) rfl | exact get_fn rfl (by assumption) rfl | exact InSl.getr (by assumption) rfl | exact InSl.le (by assumption) _ | exact AVs.le_mono (Nat.le_of_ble_eq_true rfl) _ (by assumption) | exact Nat.le_of_ble_eq_true rfl | exact Enc.Gr.le (by assumption) _ _ | exact gr_le (by assumption) _ | refine ⟨?_, ?_⟩)); (first | done | fail))), rfl, rfl, (by ((repeat' (first | exact trivial | exact rfl | assumption | exact objv_enc (by assumption) rfl | exact objv_gr (by assumption) rfl | exact get_fn rfl (by assumption) rfl | exact InSl.getr (by assumption) rfl | exact InSl.le (by assumption) _ | exact AVs.le_mono (Nat.le_of_ble_eq_true rfl) _ (by assumption) | exact Nat.le_of_ble_eq_true rfl | exact Enc.Gr.le (by assumption) _ _ | exact gr_le (by assumption) _ | refine ⟨?_, ?_⟩)); (first | done | fail)))⟩
            · exact ⟨next + 1 - 1, true, 0, _, next + 1, rfl, .inr (.inr ⟨rfl, by omega, rfl, l.eraseIdx j, rfl, .inr ⟨j, x, hx, hxg, rfl, .inl ⟨by simpa using hxk, by omega⟩⟩⟩), .inr (HFin.refl _)⟩
        · by_cases h32 : 32 ≤ l.length
          · have hE := eldest_spec G l (.slc 1 0 l.length (.opn 0 0)) next (fun _ => true) 21 (Tryz.fnOk rfl) [] (kO k false) (by ((repeat' (first | exact trivial | assumption | exact AVs.le_mono (Nat.le_of_ble_eq_true rfl) _ (by assumption) | exact Nat.le_of_ble_eq_true rfl | exact Enc.Gr.le (by assumption) _ _ | exact gr_le (by assumption) _ | exact InSl.le (by assumption) _ | refine ⟨?_, ?_⟩)); (first | done | fail))) (by omega) (.inr rfl) (fun c g => (take2_spec G c).on _)
            have he := eld_ok (fun _ => true) l l.length (Nat.le_refl _)
            by_cases hneg : eld (fun _ => true) l l.length < 0
            · repeat' (first
                | refine f_seq ?_
                | (refine f_regionL Tryz.lv8 ?_; show opsWP _ _ _ _ _ _ _ _ _)
                | (refine f_drawL Tryz.lv8 Tryz.mixed ?_; show DrK _ _ _ _ _ _ _ _ _ _)
                | (refine ops_go rfl ?_; first
                    | (apply g_ret; exact rfl; exact rfl; exact Tryz.fnOk rfl; exact RetTo.frameR (hE) [0, 1, 2] rfl (by ((repeat' (first | exact trivial | exact fits_enc (by assumption) (fun _ => rfl) | exact fits_enc (by assumption) (fun h => h) | exact ⟨_, rfl, fun _ => rfl⟩ | exact ⟨_, rfl, fun h => h⟩ | refine ⟨?_, ?_⟩)); (first | done | fail))) (by ((repeat' (first | exact trivial | assumption | exact AVs.le_mono (Nat.le_of_ble_eq_true rfl) _ (by assumption) | exact Nat.le_of_ble_eq_true rfl | exact Enc.Gr.le (by assumption) _ _ | exact gr_le (by assumption) _ | exact InSl.le (by assumption) _ | refine ⟨?_, ?_⟩)); (first | done | fail))) (by ((repeat' (first | exact trivial | assumption | exact AVs.le_mono (Nat.le_of_ble_eq_true rfl) _ (by assumption) | exact Nat.le_of_ble_eq_true rfl | exact Enc.Gr.le (by assumption) _ _ | exact gr_le (by assumption) _ | exact InSl.le (by assumption) _ | refine ⟨?_, ?_⟩)); (first | done | fail))) rfl rfl rfl)
                    | (apply g_sum Tryz.tbOk; exact rfl; exact rfl; exact rfl; exact rfl; exact rfl; (constructor <;> omega))
                    | (apply g_rem Tryz.tbOk; exact rfl; exact rfl; exact rfl; exact rfl; (first | omega | (dsimp only; omega)))
                    | (apply g_quo Tryz.tbOk; exact rfl; exact rfl; exact rfl; exact rfl; (first | omega | (dsimp only; omega)); (constructor <;> omega))
                    | (apply g_cat; exact rfl; exact rfl; exact rfl; (first | omega | (simp; done) | (simp; omega)))
                    | (apply g_cmp Tryz.tbOk; exact rfl; exact rfl; exact rfl; exact rfl; exact rfl; intro c hc; first | (have hb := BD.yes hc (by omega); subst hb; clear hc) | (have hb := BD.no hc (by omega); subst hb; clear hc) | skip)
                    | (apply g_cmpS Tryz.tbOk; exact rfl; exact rfl; exact rfl; exact rfl; intro c hc)
                    | (apply g_eqW Tryz.tbOk Tryz.elOk; exact rfl; exact rfl; exact rfl; exact rfl; exact rfl; exact rfl; intro c hc)
                    | (apply g_conv Tryz.tbOk; exact rfl; exact rfl; exact rfl; exact rfl; exact rfl; (constructor <;> omega))
                    | (apply x_set Tryz.tbOk Tryz.elOk Tryz.xtOk; exact rfl; exact rfl)
                    | (apply x_grow Tryz.tbOk Tryz.elOk Tryz.xtOk; exact rfl; exact rfl)
                    | (apply x_store Tryz.tbOk Tryz.elOk Tryz.xtOk; exact rfl)
                    | (apply x_setN Tryz.tbOk Tryz.elOk Tryz.xtOk; exact rfl)
                    | (apply g_ixs Tryz.tbOk; exact rfl; exact rfl; exact rfl; exact rfl; exact rfl; omega)
                    | (apply g_ips Tryz.tbOk; exact rfl; exact rfl; exact rfl; exact rfl; exact rfl; exact rfl; exact rfl; (first | omega | (dsimp only; omega)))
                    | (apply g_sls Tryz.tbOk; exact rfl; exact rfl; exact rfl; exact rfl; exact rfl; exact rfl; omega)
                    | (apply g_ixg Tryz.tbOk; exact rfl; exact rfl; exact rfl; exact rfl; exact rfl; exact rfl; (first | omega | (dsimp only; omega))))
                | refine ops_skip rfl rfl ?_
                | refine ops_nil ?_
                | refine then_n ?_
                | refine f_condT rfl ?_
                | refine f_condF rfl ?_
                | refine f_block ?_
                | refine f_exit ?_
                | refine f_ret ?_
                | refine f_skip ?_
                | refine DrK.nil rfl ?_
                | refine d_skip rfl rfl ?_
                | refine d_skipN rfl ?_
                | (apply d_callR; exact rfl; exact rfl; exact rfl; exact Tryz.fnOk rfl; exact fun g => RetTo.frameR (hE) [0, 1, 2] rfl (by ((repeat' (first | exact trivial | exact fits_enc (by assumption) (fun _ => rfl) | exact fits_enc (by assumption) (fun h => h) | exact ⟨_, rfl, fun _ => rfl⟩ | exact ⟨_, rfl, fun h => h⟩ | refine ⟨?_, ?_⟩)); (first | done | fail))) (by ((repeat' (first | exact trivial | assumption | exact AVs.le_mono (Nat.le_of_ble_eq_true rfl) _ (by assumption) | exact Nat.le_of_ble_eq_true rfl | exact Enc.Gr.le (by assumption) _ _ | exact gr_le (by assumption) _ | exact InSl.le (by assumption) _ | refine ⟨?_, ?_⟩)); (first | done | fail))) (by ((repeat' (first | exact trivial | assumption | exact AVs.le_mono (Nat.le_of_ble_eq_true rfl) _ (by assumption) | exact Nat.le_of_ble_eq_true rfl | exact Enc.Gr.le (by assumption) _ _ | exact gr_le (by assumption) _ | exact InSl.le (by assumption) _ | refine ⟨?_, ?_⟩)); (first | done | fail))) rfl rfl (List.append_nil _))
                | (apply d_any; exact rfl; exact rfl; exact st_sum Tryz.tbOk rfl rfl rfl rfl (by constructor <;> omega))
                | (refine d_bd rfl rfl (st_cmp Tryz.tbOk rfl rfl rfl rfl) ?_; intro c hc; first | (have hb := BD.yes hc (by omega); subst hb; clear hc) | (have hb := BD.no hc (by omega); subst hb; clear hc) | skip)
                | (refine d_bd rfl rfl (st_cmpS Tryz.tbOk rfl rfl rfl) ?_; intro c hc)
                | (refine d_bd rfl rfl (st_eqW Tryz.tbOk Tryz.elOk rfl rfl rfl rfl rfl) ?_; intro c hc)
                | (apply d_set Tryz.tbOk Tryz.elOk Tryz.xtOk; exact rfl; exact rfl; exact rfl)
                | (apply d_ips Tryz.tbOk; exact rfl; exact rfl; exact rfl; exact rfl; exact rfl; exact rfl; exact rfl; exact rfl; (first | omega | (dsimp only; omega)))
                | (apply d_ixg Tryz.tbOk; exact rfl; exact rfl; exact rfl; exact rfl; exact rfl; exact rfl; exact rfl; (first | omega | (dsimp only; omega)))
                | (apply d_grow Tryz.tbOk Tryz.elOk Tryz.xtOk; exact rfl; exact rfl; exact rfl)
                | (apply d_store Tryz.tbOk Tryz.elOk Tryz.xtOk; exact rfl; exact rfl)
                | refine then_x ?_
                | refine then_r ?_
                | refine blk_n ?_
                | refine blk_eq rfl ?_
                | refine blk_ne rfl ?_
                | refine blk_r ?_
                | refine loop_x ?_
                | refine loop_r ?_
                | refine cut_x ?_
                | refine cut_r ?_
                | refine body_ret rfl rfl ?_
                | refine body_end rfl rfl ?_
                | exact (rfl : AEnd.ret _ = AEnd.ret _)
                | exact ⟨rfl, _, rfl⟩
                | exact ⟨rfl, HFin.refl _⟩
                | (rename BD _ _ => hbd; cases hbd)
                | (rename ¬ _ = _ => hq; exact absurd rfl hq))
              exact ⟨0, false, 12, l, next, rfl, .inr (.inl ⟨rfl, rfl, rfl, .inr h32⟩), .inl (HFin.refl2 _ _)⟩
            · obtain ⟨x, hx, hxg, hxk⟩ := he.2.2 (by omega)
              obtain ⟨j, hj⟩ : ∃ j : Nat, eld (fun _ => true) l l.length = j := ⟨_, (Int.toNat_of_nonneg (by omega)).symm⟩
              rw [hj] at hE he hx
              simp only [Int.toNat_natCast] at hx
              have hdel := delete_spec G l j (by omega) (by omega)
              have hn0 : (l.eraseIdx j).length = l.length - 1 := by rw [List.length_eraseIdx, if_pos (by omega)]
              repeat' (first
                | refine f_cutR 29 (fun _ : Unit => [(0, .ptr 0 0)]) (fun _ => [cW (.slc 2 0 (l.eraseIdx j ++ [nCn next k]).length (.opn 0 0)) next, .dead, aW (l.eraseIdx j ++ [nCn next k])]) (fun _ => True) ?_ (fun _ _ => ?_)
                | refine f_seq ?_
                | (refine f_regionL Tryz.lv8 ?_; show opsWP _ _ _ _ _ _ _ _ _)
                | (refine f_drawL Tryz.lv8 Tryz.mixed ?_; show DrK _ _ _ _ _ _ _ _ _ _)
                | (refine ops_go rfl ?_; first
                    | (apply g_ret; exact rfl; exact rfl; exact Tryz.fnOk rfl; exact RetTo.frameR (hE) [0, 1, 2] rfl (by ((repeat' (first | exact trivial | exact fits_enc (by assumption) (fun _ => rfl) | exact fits_enc (by assumption) (fun h => h) | exact ⟨_, rfl, fun _ => rfl⟩ | exact ⟨_, rfl, fun h => h⟩ | refine ⟨?_, ?_⟩)); (first | done | fail))) (by ((repeat' (first | exact trivial | assumption | exact AVs.le_mono (Nat.le_of_ble_eq_true rfl) _ (by assumption) | exact Nat.le_of_ble_eq_true rfl | exact Enc.Gr.le (by assumption) _ _ | exact gr_le (by assumption) _ | exact InSl.le (by assumption) _ | refine ⟨?_, ?_⟩)); (first | done | fail))) (by ((repeat' (first | exact trivial | assumption | exact AVs.le_mono (Nat.le_of_ble_eq_true rfl) _ (by assumption) | exact Nat.le_of_ble_eq_true rfl | exact Enc.Gr.le (by assumption) _ _ | exact gr_le (by assumption) _ | exact InSl.le (by assumption) _ | refine ⟨?_, ?_⟩)); (first | done | fail))) rfl rfl rfl)
                    | (apply g_ret (h' := [cW (.slc 1 0 l.length (.opn 0 0)) next, aW (l.eraseIdx j), kO k true]); exact rfl; exact rfl; exact Tryz.fnOk rfl; exact RetTo.frameX (hdel) [1] rfl (by ((repeat' (first | exact trivial | exact fits_enc (by assumption) (fun _ => rfl) | exact fits_enc (by assumption) (fun h => h) | exact ⟨_, rfl, fun _ => rfl⟩ | exact ⟨_, rfl, fun h => h⟩ | refine ⟨?_, ?_⟩)); (first | done | fail))) (by ((repeat' (first | exact trivial | assumption | exact AVs.le_mono (Nat.le_of_ble_eq_true rfl) _ (by assumption) | exact Nat.le_of_ble_eq_true rfl | exact Enc.Gr.le (by assumption) _ _ | exact gr_le (by assumption) _ | exact InSl.le (by assumption) _ | refine ⟨?_, ?_⟩)); (first | done | fail))) (by ((repeat' (first | exact trivial | assumption | exact AVs.le_mono (Nat.le_of_ble_eq_true rfl) _ (by assumption) | exact Nat.le_of_ble_eq_true rfl | exact Enc.Gr.le (by assumption) _ _ | exact gr_le (by assumption) _ | exact InSl.le (by assumption) _ | refine ⟨?_, ?_⟩)); (first | done | fail))) rfl rfl (by simp only [splice, AObj.own, AObj.ren, AVs.ren, AV.ren, Enc.Gr.ren (by assumption), setNth, *]; rfl))
                    | (apply g_sum Tryz.tbOk; exact rfl; exact rfl; exact rfl; exact rfl; exact rfl; (constructor <;> omega))
                    | (apply g_rem Tryz.tbOk; exact rfl; exact rfl; exact rfl; exact rfl; (first | omega | (dsimp only; omega)))
                    | (apply g_quo Tryz.tbOk; exact rfl; exact rfl; exact rfl; exact rfl; (first | omega | (dsimp only; omega)); (constructor <;> omega))
                    | (apply g_cat; exact rfl; exact rfl; exact rfl; (first | omega | (simp; done) | (simp; omega)))
                    | (apply g_cmp Tryz.tbOk; exact rfl; exact rfl; exact rfl; exact rfl; exact rfl; intro c hc; first | (have hb := BD.yes hc (by omega); subst hb; clear hc) | (have hb := BD.no hc (by omega); subst hb; clear hc) | skip)
                    | (apply g_cmpS Tryz.tbOk; exact rfl; exact rfl; exact rfl; exact rfl; intro c hc)
                    | (apply g_eqW Tryz.tbOk Tryz.elOk; exact rfl; exact rfl; exact rfl; exact rfl; exact rfl; exact rfl; intro c hc)
                    | (apply g_conv Tryz.tbOk; exact rfl; exact rfl; exact rfl; exact rfl; exact rfl; (constructor <;> omega))
                    | (apply x_set Tryz.tbOk Tryz.elOk Tryz.xtOk; exact rfl; exact rfl)
                    | (apply x_grow Tryz.tbOk Tryz.elOk Tryz.xtOk; exact rfl; exact rfl)
                    | (apply x_store Tryz.tbOk Tryz.elOk Tryz.xtOk; exact rfl)
                    | (apply x_setN Tryz.tbOk Tryz.elOk Tryz.xtOk; exact rfl)
                    | (apply g_ixs Tryz.tbOk; exact rfl; exact rfl; exact rfl; exact rfl; exact rfl; omega)
                    | (apply g_ips Tryz.tbOk; exact rfl; exact rfl; exact rfl; exact rfl; exact rfl; exact rfl; exact rfl; (first | omega | (dsimp only; omega)))
                    | (apply g_sls Tryz.tbOk; exact rfl; exact rfl; exact rfl; exact rfl; exact rfl; exact rfl; omega)
                    | (apply g_ixg Tryz.tbOk; exact rfl; exact rfl; exact rfl; exact rfl; exact rfl; exact rfl; (first | omega | (dsimp only; omega))))
                | refine ops_skip rfl rfl ?_
                | refine ops_nil ?_
                | refine then_n ?_
                | refine f_condT rfl ?_
                | refine f_condF rfl ?_
                | refine f_block ?_
                | refine f_exit ?_
                | refine f_ret ?_
                | refine f_skip ?_
                | refine DrK.nil rfl ?_
                | refine d_skip rfl rfl ?_
                | refine d_skipN rfl ?_
                | (apply d_callR; exact rfl; exact rfl; exact rfl; exact Tryz.fnOk rfl; exact fun g => RetTo.frameR (hE) [0, 1, 2] rfl (by ((repeat' (first | exact trivial | exact fits_enc (by assumption) (fun _ => rfl) | exact fits_enc (by assumption) (fun h => h) | exact ⟨_, rfl, fun _ => rfl⟩ | exact ⟨_, rfl, fun h => h⟩ | refine ⟨?_, ?_⟩)); (first | done | fail))) (by ((repeat' (first | exact trivial | assumption | exact AVs.le_mono (Nat.le_of_ble_eq_true rfl) _ (by assumption) | exact Nat.le_of_ble_eq_true rfl | exact Enc.Gr.le (by assumption) _ _ | exact gr_le (by assumption) _ | exact InSl.le (by assumption) _ | refine ⟨?_, ?_⟩)); (first | done | fail))) (by ((repeat' (first | exact trivial | assumption | exact AVs.le_mono (Nat.le_of_ble_eq_true rfl) _ (by assumption) | exact Nat.le_of_ble_eq_true rfl | exact Enc.Gr.le (by assumption) _ _ | exact gr_le (by assumption) _ | exact InSl.le (by assumption) _ | refine ⟨?_, ?_⟩)); (first | done | fail))) rfl rfl (List.append_nil _))
                | (apply d_app1 (l.eraseIdx j ++ [nCn next k]).length Tryz.tbOk; exact rfl; exact rfl; exact rfl; exact rfl; exact rfl; exact rfl; exact rfl; exact rfl; exact rfl; exact (by first | (rw [cnE.of_length]; done) | (rw [cnE.of_length]; dsimp only; omega)); (dsimp only; omega); exact (cnE.of_append (l.eraseIdx j) [nCn next k]).symm; exact (by first | (simp; done) | (simp; omega)))
                | (apply d_any; exact rfl; exact rfl; exact st_sum Tryz.tbOk rfl rfl rfl rfl (by constructor <;> omega))
                | (refine d_bd rfl rfl (st_cmp Tryz.tbOk rfl rfl rfl rfl) ?_; intro c hc; first | (have hb := BD.yes hc (by omega); subst hb; clear hc) | (have hb := BD.no hc (by omega); subst hb; clear hc) | skip)
                | (refine d_bd rfl rfl (st_cmpS Tryz.tbOk rfl rfl rfl) ?_; intro c hc)
                | (refine d_bd rfl rfl (st_eqW Tryz.tbOk Tryz.elOk rfl rfl rfl rfl rfl) ?_; intro c hc)
                | (apply d_set Tryz.tbOk Tryz.elOk Tryz.xtOk; exact rfl; exact rfl; exact rfl)
                | (apply d_ips Tryz.tbOk; exact rfl; exact rfl; exact rfl; exact rfl; exact rfl; exact rfl; exact rfl; exact rfl; (first | omega | (dsimp only; omega)))
                | (apply d_ixg Tryz.tbOk; exact rfl; exact rfl; exact rfl; exact rfl; exact rfl; exact rfl; exact rfl; (first | omega | (dsimp only; omega)))
                | (apply d_grow Tryz.tbOk Tryz.elOk Tryz.xtOk; exact rfl; exact rfl; exact rfl)
                | (apply d_store Tryz.tbOk Tryz.elOk Tryz.xtOk; exact rfl; exact rfl)
                | refine then_x ?_
                | refine then_r ?_
                | refine blk_n ?_
                | refine blk_eq rfl ?_
                | refine blk_ne rfl ?_
                | refine blk_r ?_
                | refine loop_x ?_
                | refine loop_r ?_
                | refine cut_x ?_
                | refine cut_r ?_
                | refine body_ret rfl rfl ?_
                | refine body_end rfl rfl ?_
                | exact (rfl : AEnd.ret _ = AEnd.ret _)
                | exact ⟨rfl, _, rfl⟩
                | exact ⟨rfl, HFin.refl _⟩
                | (rename BD _ _ => hbd; cases hbd)
                | (rename ¬ _ = _ => hq; exact absurd rfl hq))
              · exact cut_n () trivial ⟨[0, 1, 4], rfl, (by ((repeat' (first | exact trivial | exact rfl | assumption | exact objv_enc (by assumption) rfl | exact objv_gr (by assumption) rfl | exact get_fn rfl (by assumption) rfl | exact InSl.getr (by assumption) rfl | exact InSl.le (by assumption) _ | exact AVs.le_mono (Nat.le_of_ble_eq_true rfl) _ (by assumption) | exact Nat.le_of_ble_eq_true rfl | exact Enc.Gr.le (by assumption) _ _ | exact gr_le (by assumption) _ | refine ⟨?_, ?_⟩)); (first | done | fail))), rfl, rfl, (by ((repeat' (first | exact trivial | exact rfl | assumption | exact objv_enc (by assumption) rfl | exact objv_gr (by assumption) rfl | exact get_fn rfl (by assumption) rfl | exact InSl.getr (by assumption) rfl | exact InSl.le (by assumption) _ | exact AVs.le_mono (Nat.le_of_ble_eq_true rfl) _ (by assumption) | exact Nat.le_of_ble_eq_true rfl | exact Enc.Gr.le (by assumption) _ _ | exact gr_le (by assumption) _ | refine ⟨?_, ?_⟩)); (first | done | fail)))⟩
              · exact ⟨next + 1 - 1, true, 0, _, next + 1, rfl, .inr (.inr ⟨rfl, by omega, rfl, l.eraseIdx j, rfl, .inr ⟨j, x, hx, hxg, rfl, .inr ⟨by omega, h32⟩⟩⟩), .inr (HFin.refl _)⟩
          · repeat' (first
              | refine f_cutR 29 (fun _ : Unit => [(0, .ptr 0 0)]) (fun _ => [cW (.slc 2 0 (l ++ [nCn next k]).length (.opn 0 0)) next, .dead, aW (l ++ [nCn next k])]) (fun _ => True) ?_ (fun _ _ => ?_)
              | refine f_seq ?_
              | (refine f_regionL Tryz.lv8 ?_; show opsWP _ _ _ _ _ _ _ _ _)
              | (refine f_drawL Tryz.lv8 Tryz.mixed ?_; show DrK _ _ _ _ _ _ _ _ _ _)
              | (refine ops_go rfl ?_; first
                  | (apply g_sum Tryz.tbOk; exact rfl; exact rfl; exact rfl; exact rfl; exact rfl; (constructor <;> omega))
                  | (apply g_rem Tryz.tbOk; exact rfl; exact rfl; exact rfl; exact rfl; (first | omega | (dsimp only; omega)))
                  | (apply g_quo Tryz.tbOk; exact rfl; exact rfl; exact rfl; exact rfl; (first | omega | (dsimp only; omega)); (constructor <;> omega))
                  | (apply g_cat; exact rfl; exact rfl; exact rfl; (first | omega | (simp; done) | (simp; omega)))
                  | (apply g_cmp Tryz.tbOk; exact rfl; exact rfl; exact rfl; exact rfl; exact rfl; intro c hc; first | (have hb := BD.yes hc (by omega); subst hb; clear hc) | (have hb := BD.no hc (by omega); subst hb; clear hc) | skip)
                  | (apply g_cmpS Tryz.tbOk; exact rfl; exact rfl; exact rfl; exact rfl; intro c hc)
                  | (apply g_eqW Tryz.tbOk Tryz.elOk; exact rfl; exact rfl; exact rfl; exact rfl; exact rfl; exact rfl; intro c hc)
                  | (apply g_conv Tryz.tbOk; exact rfl; exact rfl; exact rfl; exact rfl; exact rfl; (constructor <;> omega))
                  | (apply x_set Tryz.tbOk Tryz.elOk Tryz.xtOk; exact rfl; exact rfl)
                  | (apply x_grow Tryz.tbOk Tryz.elOk Tryz.xtOk; exact rfl; exact rfl)
                  | (apply x_store Tryz.tbOk Tryz.elOk Tryz.xtOk; exact rfl)
                  | (apply x_setN Tryz.tbOk Tryz.elOk Tryz.xtOk; exact rfl)
                  | (apply g_ixs Tryz.tbOk; exact rfl; exact rfl; exact rfl; exact rfl; exact rfl; omega)
                  | (apply g_ips Tryz.tbOk; exact rfl; exact rfl; exact rfl; exact rfl; exact rfl; exact rfl; exact rfl; (first | omega | (dsimp only; omega)))
                  | (apply g_sls Tryz.tbOk; exact rfl; exact rfl; exact rfl; exact rfl; exact rfl; exact rfl; omega)
                  | (apply g_ixg Tryz.tbOk; exact rfl; exact rfl; exact rfl; exact rfl; exact rfl; exact rfl; (first | omega | (dsimp only; omega))))
              | refine ops_skip rfl rfl ?_
              | refine ops_nil ?_
              | refine then_n ?_
              | refine f_condT rfl ?_
              | refine f_condF rfl ?_
              | refine f_block ?_
              | refine f_exit ?_
              | refine f_ret ?_
              | refine f_skip ?_
              | refine DrK.nil rfl ?_
              | refine d_skip rfl rfl ?_
              | refine d_skipN rfl ?_
              | (apply d_app1 (l ++ [nCn next k]).length Tryz.tbOk; exact rfl; exact rfl; exact rfl; exact rfl; exact rfl; exact rfl; exact rfl; exact rfl; exact rfl; exact (by first | (rw [cnE.of_length]; done) | (rw [cnE.of_length]; dsimp only; omega)); (dsimp only; omega); exact (cnE.of_append (l) [nCn next k]).symm; exact (by first | (simp; done) | (simp; omega)))
              | (apply d_any; exact rfl; exact rfl; exact st_sum Tryz.tbOk rfl rfl rfl rfl (by constructor <;> omega))
              | (refine d_bd rfl rfl (st_cmp Tryz.tbOk rfl rfl rfl rfl) ?_; intro c hc; first | (have hb := BD.yes hc (by omega); subst hb; clear hc) | (have hb := BD.no hc (by omega); subst hb; clear hc) | skip)
              | (refine d_bd rfl rfl (st_cmpS Tryz.tbOk rfl rfl rfl) ?_; intro c hc)
              | (refine d_bd rfl rfl (st_eqW Tryz.tbOk Tryz.elOk rfl rfl rfl rfl rfl) ?_; intro c hc)
              | (apply d_set Tryz.tbOk Tryz.elOk Tryz.xtOk; exact rfl; exact rfl; exact rfl)
              | (apply d_ips Tryz.tbOk; exact rfl; exact rfl; exact rfl; exact rfl; exact rfl; exact rfl; exact rfl; exact rfl; (first | omega | (dsimp only; omega)))
              | (apply d_ixg Tryz.tbOk; exact rfl; exact rfl; exact rfl; exact rfl; exact rfl; exact rfl; exact rfl; (first | omega | (dsimp only; omega)))
              | (apply d_grow Tryz.tbOk Tryz.elOk Tryz.xtOk; exact rfl; exact rfl; exact rfl)
              | (apply d_store Tryz.tbOk Tryz.elOk Tryz.xtOk; exact rfl; exact rfl)
              | refine then_x ?_
              | refine then_r ?_
              | refine blk_n ?_
              | refine blk_eq rfl ?_
              | refine blk_ne rfl ?_
              | refine blk_r ?_
              | refine loop_x ?_
              | refine loop_r ?_
              | refine cut_x ?_
              | refine cut_r ?_
              | refine body_ret rfl rfl ?_
              | refine body_end rfl rfl ?_
              | exact (rfl : AEnd.ret _ = AEnd.ret _)
              | exact ⟨rfl, _, rfl⟩
              | exact ⟨rfl, HFin.refl _⟩
              | (rename BD _ _ => hbd; cases hbd)
              | (rename ¬ _ = _ => hq; exact absurd rfl hq))
            · exact cut_n () trivial ⟨[0, 1, 4], rfl, (by ((repeat' (first | exact trivial | exact rfl | assumption | exact objv_enc (by assumption) rfl | exact objv_gr (by assumption) rfl | exact get_fn rfl (by assumption) rfl | exact InSl.getr (by assumption) rfl | exact InSl.le (by assumption) _ | exact AVs.le_mono (Nat.le_of_ble_eq_true rfl) _ (by assumption) | exact Nat.le_of_ble_eq_true rfl | exact Enc.Gr.le (by assumption) _ _ | exact gr_le (by assumption) _ | refine ⟨?_, ?_⟩)); (first | done | fail))), rfl, rfl, (by ((repeat' (first | exact trivial | exact rfl | assumption | exact objv_enc (by assumption) rfl | exact objv_gr (by assumption) rfl | exact get_fn rfl (by assumption) rfl | exact InSl.getr (by assumption) rfl | exact InSl.le (by assumption) _ | exact AVs.le_mono (Nat.le_of_ble_eq_true rfl) _ (by assumption) | exact Nat.le_of_ble_eq_true rfl | exact Enc.Gr.le (by assumption) _ _ | exact gr_le (by assumption) _ | refine ⟨?_, ?_⟩)); (first | done | fail)))⟩
            · exact ⟨next + 1 - 1, true, 0, _, next + 1, rfl, .inr (.inr ⟨rfl, by omega, rfl, l, rfl, .inl ⟨rfl, by omega, by omega⟩⟩), .inr (HFin.refl _)⟩
  · rintro e q ⟨id, fresh, err, l', next', rfl, hp, hq | hq⟩
    · exact ⟨_, hq, (by ((repeat' (first | exact trivial | assumption | exact AVs.le_mono (Nat.le_of_ble_eq_true rfl) _ (by assumption) | exact Nat.le_of_ble_eq_true rfl | exact Enc.Gr.le (by assumption) _ _ | exact gr_le (by assumption) _ | exact InSl.le (by assumption) _ | refine ⟨?_, ?_⟩)); (first | done | fail))), by simp, (by ((repeat' (first | exact trivial | assumption | exact AVs.le_mono (Nat.le_of_ble_eq_true rfl) _ (by assumption) | exact Nat.le_of_ble_eq_true rfl | exact Enc.Gr.le (by assumption) _ _ | exact gr_le (by assumption) _ | exact InSl.le (by assumption) _ | refine ⟨?_, ?_⟩)); (first | done | fail))), id, fresh, err, l', next', rfl, hp, .inl rfl⟩
    · exact ⟨_, hq, (by ((repeat' (first | exact trivial | assumption | exact AVs.le_mono (Nat.le_of_ble_eq_true rfl) _ (by assumption) | exact Nat.le_of_ble_eq_true rfl | exact Enc.Gr.le (by assumption) _ _ | exact gr_le (by assumption) _ | exact InSl.le (by assumption) _ | refine ⟨?_, ?_⟩)); (first | done | fail))), by simp, (by ((repeat' (first | exact trivial | assumption | exact AVs.le_mono (Nat.le_of_ble_eq_true rfl) _ (by assumption) | exact Nat.le_of_ble_eq_true rfl | exact Enc.Gr.le (by assumption) _ _ | exact gr_le (by assumption) _ | exact InSl.le (by assumption) _ | refine ⟨?_, ?_⟩)); (first | done | fail))), id, fresh, err, l', next', rfl, hp, .inr rfl⟩
end Go.Proofs
