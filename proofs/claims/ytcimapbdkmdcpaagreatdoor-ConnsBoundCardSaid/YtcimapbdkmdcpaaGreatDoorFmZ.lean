/- FM, a program logic over the given model with abstract values and an abstract heap: general lemmas. No statement is closed in this text. -/
import Derived.Test.YtcimapbdkmdcpaaGreatDoorFmY
set_option linter.unusedVariables false
set_option linter.unusedSimpArgs false
namespace Go.Fm
open Go

/-! A heap under other numbers, cut down to what is needed. -/
section
variable {P : Program} {Tb : TypeId → Option TInfo} {G : Nat → Nat → Option AV} {N n : Nat} {μ κ : Nat → Nat} {w : World}

def SubV (s : Nat → Nat) (m : Nat) : Frame → Frame → Prop
  | [], _ => True
  | (i, v) :: t, fr => get fr i = some (v.ren s) ∧ v.le m ∧ SubV s m t fr
theorem SubV.get {s : Nat → Nat} {m : Nat} : ∀ {a b : Frame}, SubV s m a b → ∀ i v, Fm.get a i = some v → Fm.get b i = some (v.ren s) ∧ v.le m
  | [], b, _, i, v, h => by simp [Fm.get] at h
  | (j, u) :: t, b, hs, i, v, h => by
    simp only [Fm.get] at h
    by_cases e : j = i
    · subst e; simp at h; subst h; exact ⟨hs.1, hs.2.1⟩
    · rw [beq_false_of_ne e, cond_false] at h; exact SubV.get hs.2.2 i v h

/-- The objects of the smaller heap, each found in the greater one. -/
def ObjV (s : Nat → Nat) (m : Nat) (h : Heap) : Nat → Heap → Prop
  | _, [] => True
  | i, o :: t => (match o with
    | .dead => True
    | o => nth h (s i) = some (o.ren s) ∧ AObj.le m o) ∧ ObjV s m h (i + 1) t
theorem ObjV.get {s : Nat → Nat} {m : Nat} {h : Heap} : ∀ {h2 : Heap} {k : Nat}, ObjV s m h k h2 → ∀ (i : Nat) (o : AObj), h2[i]? = some o → AObj.le m o ∧ (o.live = true → h[s (k + i)]? = some (o.ren s))
  | [], k, _, i, o, hi => by simp at hi
  | x :: t, k, ho, i, o, hi => by
    cases i with
    | zero =>
      simp at hi; subst hi
      have := ho.1
      cases x with
      | dead => exact ⟨trivial, fun q => by simp [AObj.live] at q⟩
      | _ => rw [nth_eq] at this; exact ⟨this.2, fun _ => this.1⟩
    | succ i =>
      have := ObjV.get ho.2 i o (by simpa using hi)
      rw [show k + (i + 1) = k + 1 + i by omega]
      exact this

theorem objRel_unren {s : Nat → Nat} {m id : Nat} {o : AObj} (hl : AObj.le m o) {b : Obj} (hr : objRel P μ κ (s id) (o.ren s) b) : objRel P (fun i => μ (s i)) (fun i => κ (s i)) id o b := by
  have hag : ∀ i, i < m → μ (s i) = (fun i => μ (s i)) i ∧ κ (s i) = (fun i => κ (s i)) i := fun i _ => ⟨rfl, rfl⟩
  cases o with
  | cells cs ty opn wr =>
    obtain ⟨c, fz, extra, e1, e2, e3, e4, e5⟩ := hr
    exact ⟨c, fz, extra, e1, by rw [e2, concs_ren hag cs hl], e3, e4, e5⟩
  | sit s' p => exact hr
  | mapo es c =>
    simp only [objRel, AObj.ren] at hr ⊢
    rw [hr]
    congr 1
    rw [List.map_map]
    congr 1
    apply List.map_congr_left
    intro e he
    have := hl e he
    simp [entC, Function.comp, conc_ren hag _ this.1, conc_ren hag _ this.2]
  | dead => trivial

theorem f_view {c : Code} {Q : AExit → Frame → Heap → Prop} {fr : Frame} {h : Heap} (s : Nat → Nat) (fr2 : Frame) (h2 : Heap) (hs0 : ∀ i, i < n → s i = i) (hs1 : ∀ i, n ≤ i → i < h2.length → n ≤ s i) (hn : n ≤ h2.length)
    (hfr : SubV s h2.length fr2 fr) (hd2 : get fr2 dslot = none) (hd : get fr dslot = none) (hob : ObjV s h2.length h 0 h2) (hinj : ∀ i j, i < h2.length → j < h2.length → i ≠ j → s i ≠ s j) (k : WP P G N n c Q fr2 h2) : WP P G N n c Q fr h := by
  intro μ₀ κ₀ h₀ w₀ μ κ a w hn0 hx hh hf
  have og : ∀ (i : Nat) (o : AObj), h2[i]? = some o → AObj.le h2.length o ∧ (o.live = true → h[s i]? = some (o.ren s)) := fun i o hi => by
    have := hob.get i o hi
    simpa using this
  have hag : ∀ i, i < h2.length → μ (s i) = (fun i => μ (s i)) i ∧ κ (s i) = (fun i => κ (s i)) i := fun i _ => ⟨rfl, rfl⟩
  have hh2 : HRel P G (fun i => μ (s i)) (fun i => κ (s i)) h2 w := by
    refine ⟨fun id o hi hl => ?_, fun i j oi oj hi hj hne ho hl => ?_, fun i o hi => (og i o hi).1, fun g gj gv hg => ?_, fun i o g gj gv hi ho hg => ?_⟩
    · obtain ⟨hle, hl'⟩ := og id o hi
      obtain ⟨b, hb, hr⟩ := hh.obj (s id) _ (hl' hl) (by rw [AObj.ren_live]; exact hl)
      exact ⟨b, hb, objRel_unren hle hr⟩
    · exact hh.sep (s i) (s j) _ _ ((og i oi hi).2 (AObj.live_of_own ho)) ((og j oj hj).2 hl) (hinj i j (lt_of_get hi) (lt_of_get hj) hne) (by rw [AObj.ren_own]; exact ho) (by rw [AObj.ren_live]; exact hl)
    · obtain ⟨q2, q3⟩ := hh.glob g gj gv hg
      exact ⟨by rw [q2]; exact congrArg some (conc_congr (n := 0) (fun i hi => absurd hi (Nat.not_lt_zero _)) gv q3), q3⟩
    · exact hh.apart (s i) _ g gj gv ((og i o hi).2 (AObj.live_of_own ho)) (by rw [AObj.ren_own]; exact ho) hg
  refine k μ₀ κ₀ h₀ w₀ _ _ a w hn0 ⟨hx.os, hx.tape, hx.output, hx.size, by rw [hn0]; exact hn, fun i hi => ?_, hx.keep, fun i o hi hl => ?_⟩ hh2 ⟨hf.size, hf.small, ?_, ?_, fun t v hv ht => ?_⟩
  · simp only [hs0 i (by rw [← hn0]; exact hi)]; exact hx.agree i hi
  · have q := hx.fresh (s i) _ ((og i o hi).2 hl) (by rw [AObj.ren_live]; exact hl)
    rw [AObj.ren_own] at q
    rw [hn0] at q ⊢
    rcases Nat.lt_or_ge i n with hlt | hge
    · rw [hs0 i hlt] at q
      rcases q with q | q
      · exact .inl q
      · omega
    · have hge' := hs1 i hge (lt_of_get hi)
      rcases q with q | q
      · omega
      · exact .inr ⟨hge, q.2⟩
  · rw [hf.defers]; simp [defersOf, hd, hd2]
  · simp [defersOf, hd2, AVs.le]
  · obtain ⟨q1, q2⟩ := hfr.get t v hv
    have := (hf.slot t _ q1 ht).1
    rw [conc_ren hag v q2] at this
    exact ⟨this, q2⟩

def sOf (l : List Nat) (i : Nat) : Nat := match nth l i with
  | some j => j
  | none => i
def vchk (n m : Nat) (l : List Nat) : Bool := bif Nat.beq l.length m then (bif Nat.ble n m then (bif allI (fun i j => bif Nat.blt i n then Nat.beq i j else Nat.ble n j) 0 l then distinct l else false) else false) else false

/-- What one state knows, the other one knows, under other numbers. -/
def Vw (n : Nat) (fr2 : Frame) (h2 : Heap) (fr : Frame) (h : Heap) : Prop :=
  ∃ l, vchk n h2.length l = true ∧ SubV (sOf l) h2.length fr2 fr ∧ get fr2 dslot = none ∧ get fr dslot = none ∧ ObjV (sOf l) h2.length h 0 h2

theorem f_vw {c : Code} {Q : AExit → Frame → Heap → Prop} {fr fr2 : Frame} {h h2 : Heap} (v : Vw n fr2 h2 fr h) (k : WP P G N n c Q fr2 h2) : WP P G N n c Q fr h := by
  obtain ⟨l, hc, h1, h3, h4, h5⟩ := v
  unfold vchk at hc
  cases b1 : Nat.beq l.length h2.length with
  | false => simp [b1] at hc
  | true =>
    cases b2 : Nat.ble n h2.length with
    | false => simp [b1, b2] at hc
    | true =>
      cases b3 : allI (fun i j => bif Nat.blt i n then Nat.beq i j else Nat.ble n j) 0 l with
      | false => simp [b1, b2, b3] at hc
      | true =>
        simp only [b1, b2, b3, cond_true] at hc
        have hl := Nat.eq_of_beq_eq_true b1
        have hn := Nat.le_of_ble_eq_true b2
        have get : ∀ i, i < h2.length → ∃ j, l[i]? = some j ∧ sOf l i = j := fun i hi => by
          have : l[i]? = some (l[i]'(by omega)) := List.getElem?_eq_getElem (by omega)
          exact ⟨_, this, by unfold sOf; rw [nth_eq, this]⟩
        have sp : ∀ i, i < h2.length → (bif Nat.blt i n then Nat.beq i (sOf l i) else Nat.ble n (sOf l i)) = true := fun i hi => by
          obtain ⟨j, hj, e⟩ := get i hi
          have := allI_spec b3 i j hj
          rw [e]; simpa only [Nat.zero_add] using this
        refine f_view (sOf l) fr2 h2 (fun i hi => ?_) (fun i hi1 hi2 => ?_) hn h1 h3 h4 h5 (fun i j hi hj hne => ?_) k
        · have := sp i (by omega)
          rw [show Nat.blt i n = true by simpa [Nat.blt_eq] using hi] at this
          exact (Nat.eq_of_beq_eq_true this).symm
        · have := sp i hi2
          have hb : Nat.blt i n = false := by
            cases e : Nat.blt i n with
            | false => rfl
            | true => simp [Nat.blt_eq] at e; omega
          rw [hb] at this
          exact Nat.le_of_ble_eq_true this
        · obtain ⟨x, hx, ex⟩ := get i hi
          obtain ⟨y, hy, ey⟩ := get j hj
          rw [ex, ey]
          exact distinct_ne hc i j x y hx hy hne

/-- A loop, by a family of states. -/
theorem f_loopV {α : Type} {c : Code} {Q : AExit → Frame → Heap → Prop} {fr : Frame} {h : Heap} (F : α → Frame) (H : α → Heap) (I : α → Prop) (m : α → Nat) (x₀ : α) (hI : I x₀) (v : Vw n (F x₀) (H x₀) fr h)
    (round : ∀ x, I x → WP P G N n c (loopQ (fun y fr h => I y ∧ Vw n (F y) (H y) fr h) m x Q) (F x) (H x)) : WP P G N n (.loop c) Q fr h := by
  refine f_loop (fun y fr h => I y ∧ Vw n (F y) (H y) fr h) m x₀ ⟨hI, v⟩ ?_
  rintro x fr h ⟨hi, hv⟩
  exact f_vw hv (round x hi)

theorem loop_v {α : Type} {F : α → Frame} {H : α → Heap} {I : α → Prop} {m : α → Nat} {x : α} {Q : AExit → Frame → Heap → Prop} {fr : Frame} {h : Heap} (y : α) (hI : I y) (hm : m y < m x) (v : Vw n (F y) (H y) fr h) :
    loopQ (fun y fr h => I y ∧ Vw n (F y) (H y) fr h) m x Q .normal fr h := ⟨y, ⟨hI, v⟩, hm⟩

theorem view_rel {h h2 : Heap} {l : List Nat} {μ₀ κ₀ : Nat → Nat} {h₀ : Heap} {w₀ : World} (hn0 : h₀.length = n) (hc : vchk n h2.length l = true) (hob : ObjV (sOf l) h2.length h 0 h2) (hx : Ext μ₀ κ₀ μ κ h₀ h w₀ w) (hh : HRel P G μ κ h w) :
    HRel P G (fun i => μ (sOf l i)) (fun i => κ (sOf l i)) h2 w ∧ Ext μ₀ κ₀ (fun i => μ (sOf l i)) (fun i => κ (sOf l i)) h₀ h2 w₀ w := by
  unfold vchk at hc
  cases b1 : Nat.beq l.length h2.length with
  | false => simp [b1] at hc
  | true =>
    cases b2 : Nat.ble n h2.length with
    | false => simp [b1, b2] at hc
    | true =>
      cases b3 : allI (fun i j => bif Nat.blt i n then Nat.beq i j else Nat.ble n j) 0 l with
      | false => simp [b1, b2, b3] at hc
      | true =>
        simp only [b1, b2, b3, cond_true] at hc
        have hl := Nat.eq_of_beq_eq_true b1
        have hn := Nat.le_of_ble_eq_true b2
        have get : ∀ i, i < h2.length → ∃ j, l[i]? = some j ∧ sOf l i = j := fun i hi => by
          have : l[i]? = some (l[i]'(by omega)) := List.getElem?_eq_getElem (by omega)
          exact ⟨_, this, by unfold sOf; rw [nth_eq, this]⟩
        have sp : ∀ i, i < h2.length → (bif Nat.blt i n then Nat.beq i (sOf l i) else Nat.ble n (sOf l i)) = true := fun i hi => by
          obtain ⟨j, hj, e⟩ := get i hi
          have := allI_spec b3 i j hj
          rw [e]; simpa only [Nat.zero_add] using this
        have hs0 : ∀ i, i < n → sOf l i = i := fun i hi => by
          have := sp i (by omega)
          rw [show Nat.blt i n = true by simpa [Nat.blt_eq] using hi] at this
          exact (Nat.eq_of_beq_eq_true this).symm
        have hs1 : ∀ i, n ≤ i → i < h2.length → n ≤ sOf l i := fun i hi1 hi2 => by
          have := sp i hi2
          have hb : Nat.blt i n = false := by
            cases e : Nat.blt i n with
            | false => rfl
            | true => simp [Nat.blt_eq] at e; omega
          rw [hb] at this
          exact Nat.le_of_ble_eq_true this
        have hinj : ∀ i j, i < h2.length → j < h2.length → i ≠ j → sOf l i ≠ sOf l j := fun i j hi hj hne => by
          obtain ⟨x, hx, ex⟩ := get i hi
          obtain ⟨y, hy, ey⟩ := get j hj
          rw [ex, ey]
          exact distinct_ne hc i j x y hx hy hne
        have og : ∀ (i : Nat) (o : AObj), h2[i]? = some o → AObj.le h2.length o ∧ (o.live = true → h[sOf l i]? = some (o.ren (sOf l))) := fun i o hi => by
          have := hob.get i o hi
          simpa using this
        refine ⟨⟨fun id o hi hl => ?_, fun i j oi oj hi hj hne ho hl => ?_, fun i o hi => (og i o hi).1, fun g gj gv hg => ?_, fun i o g gj gv hi ho hg => ?_⟩, ⟨hx.os, hx.tape, hx.output, hx.size, by rw [hn0]; exact hn, fun i hi => ?_, hx.keep, fun i o hi hl => ?_⟩⟩
        · obtain ⟨hle, hl'⟩ := og id o hi
          obtain ⟨b, hb, hr⟩ := hh.obj (sOf l id) _ (hl' hl) (by rw [AObj.ren_live]; exact hl)
          exact ⟨b, hb, objRel_unren hle hr⟩
        · exact hh.sep (sOf l i) (sOf l j) _ _ ((og i oi hi).2 (AObj.live_of_own ho)) ((og j oj hj).2 hl) (hinj i j (lt_of_get hi) (lt_of_get hj) hne) (by rw [AObj.ren_own]; exact ho) (by rw [AObj.ren_live]; exact hl)
        · obtain ⟨q2, q3⟩ := hh.glob g gj gv hg
          exact ⟨by rw [q2]; exact congrArg some (conc_congr (n := 0) (fun i hi => absurd hi (Nat.not_lt_zero _)) gv q3), q3⟩
        · exact hh.apart (sOf l i) _ g gj gv ((og i o hi).2 (AObj.live_of_own ho)) (by rw [AObj.ren_own]; exact ho) hg
        · simp only [hs0 i (by rw [← hn0]; exact hi)]; exact hx.agree i hi
        · have q := hx.fresh (sOf l i) _ ((og i o hi).2 hl) (by rw [AObj.ren_live]; exact hl)
          rw [AObj.ren_own] at q
          rw [hn0] at q ⊢
          rcases Nat.lt_or_ge i n with hlt | hge
          · rw [hs0 i hlt] at q
            rcases q with q | q
            · exact .inl q
            · omega
          · have hge' := hs1 i hge (lt_of_get hi)
            rcases q with q | q
            · omega
            · exact .inr ⟨hge, q.2⟩

/-- What a call comes to, under other numbers, cut down. -/
theorem RetTo.view {f : FuncId} {as : List AV} {h h2 : Heap} {v2 : AV}
    (hc : CallTo P G f as h (fun e h' => ∃ l, vchk h.length h2.length l = true ∧ ObjV (sOf l) h2.length h' 0 h2 ∧ e = .ret (v2.ren (sOf l)) ∧ v2.le h2.length)) : RetTo P G f as h v2 h2 := by
  intro μ κ w hh hl
  refine (hc μ κ w hh hl).mono ?_
  rintro e w' ⟨μ', κ', e', h', ⟨l, q1, q2, rfl, q4⟩, er, hh', hx⟩
  obtain ⟨r1, r2⟩ := view_rel rfl q1 q2 hx hh'
  refine ⟨_, _, .ret v2, h2, ⟨rfl, rfl⟩, ⟨?_, q4⟩, r1, r2⟩
  rw [er.1]
  congr 1
  exact conc_ren (m := h2.length) (fun i _ => ⟨rfl, rfl⟩) v2 q4
end
end Go.Fm
