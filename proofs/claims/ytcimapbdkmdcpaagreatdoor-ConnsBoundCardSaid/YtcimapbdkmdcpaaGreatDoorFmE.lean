/- FM, a program logic over the given model with abstract values and an abstract heap: general lemmas. No statement is closed in this text. -/
import Derived.Test.YtcimapbdkmdcpaaGreatDoorFmD
set_option linter.unusedVariables false
set_option linter.unusedSimpArgs false
namespace Go.Fm
open Go

def upd (f : Nat → Nat) (i v : Nat) : Nat → Nat := fun j => if j = i then v else f j
theorem upd_same (f : Nat → Nat) (i v : Nat) : upd f i v i = v := by simp [upd]
theorem upd_lt (f : Nat → Nat) {i j v : Nat} (h : j < i) : upd f i v j = f j := by simp [upd, Nat.ne_of_lt h]

section
variable {P : Program} {Tb : TypeId → Option TInfo} {G : Nat → Nat → Option AV} {μ κ μ' κ' : Nat → Nat} {h h' : Heap} {w w' : World} {N n : Nat} {fr : Frame} {a : Act}

theorem objRel_congr {id : Nat} {o : AObj} {b : Obj} {m : Nat} (hag : ∀ i, i < m → μ' i = μ i ∧ κ' i = κ i) (hid : id < m) (hl : AObj.le m o) (hr : objRel P μ κ id o b) : objRel P μ' κ' id o b := by
  cases o with
  | cells cs ty opn wr =>
    obtain ⟨c, fz, extra, e1, e2, e3, e4, e5⟩ := hr
    exact ⟨c, fz, extra, e1, by rw [e2, concs_congr hag cs hl], e3, fun ho => by rw [e4 ho, (hag id hid).2], e5⟩
  | sit s p => exact hr
  | mapo es c =>
    simp only [objRel] at hr ⊢
    rw [hr]
    congr 2
    apply List.map_congr_left
    intro e he
    have := hl e he
    simp only [entC, conc_congr hag _ this.1, conc_congr hag _ this.2]
  | dead => trivial

/-- The heap grows by one object, that a block stands for. -/
theorem HRel.push (r : HRel P G μ κ h w) {o : AObj} {b : Nat} (k : Nat) (hsz : w.heap.size ≤ w'.heap.size) (hkeep : ∀ i, i < w.heap.size → w'.heap[i]? = w.heap[i]?) (hb : w.heap.size ≤ b)
    (hl : AObj.le h.length o) {bo : Obj} (hbo : w'.heap[b]? = some bo) (ho : objRel P (upd μ h.length b) (upd κ h.length k) h.length o bo) :
    HRel P G (upd μ h.length b) (upd κ h.length k) (h ++ [o]) w' where
  obj id q hq hlive := by
    rw [List.getElem?_append] at hq
    split at hq
    · rename_i hlt
      obtain ⟨b1, hb1, hr⟩ := r.obj id q hq hlive
      rw [upd_lt _ hlt]
      refine ⟨b1, ?_, objRel_congr (m := h.length) (fun i hi => ⟨upd_lt _ hi, upd_lt _ hi⟩) hlt (r.le id q hq) hr⟩
      rw [hkeep _ (by rcases Nat.lt_or_ge (μ id) w.heap.size with x | x; exact x; simp [Array.getElem?_eq_none x] at hb1)]
      exact hb1
    · rename_i hge
      have : id - h.length = 0 := by
        rcases Nat.eq_zero_or_pos (id - h.length) with x | x
        · exact x
        · rw [List.getElem?_eq_none (by simp; omega)] at hq; simp at hq
      rw [this] at hq
      simp at hq; subst hq
      have e : id = h.length := by omega
      subst e
      rw [upd_same]
      exact ⟨bo, hbo, ho⟩
  sep i j oi oj hi hj hne hown hlive := by
    have lt : ∀ {q : Nat} {oq : AObj}, q < h.length → h[q]? = some oq → oq.live = true → μ q < w.heap.size := by
      intro q oq _ hq hl
      obtain ⟨b1, hb1, _⟩ := r.obj q oq hq hl
      rcases Nat.lt_or_ge (μ q) w.heap.size with x | x
      · exact x
      · simp [Array.getElem?_eq_none x] at hb1
    have ii : i < (h ++ [o]).length := by
      rcases Nat.lt_or_ge i (h ++ [o]).length with x | x
      · exact x
      · rw [List.getElem?_eq_none x] at hi; simp at hi
    have jj : j < (h ++ [o]).length := by
      rcases Nat.lt_or_ge j (h ++ [o]).length with x | x
      · exact x
      · rw [List.getElem?_eq_none x] at hj; simp at hj
    simp at ii jj
    rcases Nat.lt_or_ge i h.length with hil | hil
    · rw [List.getElem?_append_left hil] at hi
      rw [upd_lt _ hil]
      rcases Nat.lt_or_ge j h.length with hjl | hjl
      · rw [List.getElem?_append_left hjl] at hj
        rw [upd_lt _ hjl]
        exact r.sep i j oi oj hi hj hne hown hlive
      · have : j = h.length := by omega
        subst this
        rw [upd_same]
        have := lt hil hi (AObj.live_of_own hown)
        omega
    · have : i = h.length := by omega
      subst this
      rw [upd_same]
      have hjl : j < h.length := by omega
      rw [List.getElem?_append_left hjl] at hj
      rw [upd_lt _ hjl]
      have := lt hjl hj hlive
      omega
  le i q hq := by
    rw [List.length_append]
    rw [List.getElem?_append] at hq
    split at hq
    · exact AObj.le_mono (by omega) (r.le i q hq)
    · have : i - h.length = 0 := by
        rcases Nat.eq_zero_or_pos (i - h.length) with x | x
        · exact x
        · rw [List.getElem?_eq_none (by simp; omega)] at hq; simp at hq
      rw [this] at hq; simp at hq; subst hq
      exact AObj.le_mono (by omega) hl
  glob g j v hg := by
    obtain ⟨q, hle⟩ := r.glob g j v hg
    have hlt := cell_lt q
    exact ⟨by rw [cell_congr (hkeep _ hlt), q]; exact congrArg some (conc_congr (n := 0) (fun i hi => absurd hi (Nat.not_lt_zero _)) v hle).symm, hle⟩
  apart i q g gj gv hi hown hg := by
    rcases Nat.lt_or_ge i h.length with hil | hil
    · rw [List.getElem?_append_left hil] at hi
      rw [upd_lt _ hil]
      exact r.apart i q g gj gv hi hown hg
    · have : i = h.length := by
        have : i < (h ++ [o]).length := by
          rcases Nat.lt_or_ge i (h ++ [o]).length with x | x
          · exact x
          · rw [List.getElem?_eq_none x] at hi; simp at hi
        simp at this; omega
      subst this
      rw [upd_same]
      have hlt := cell_lt (r.glob g gj gv hg).1
      dsimp only at hlt
      omega

theorem Ext.push (x : World) (hsz : w.heap.size ≤ w'.heap.size) (hkeep : ∀ i, i < w.heap.size → w'.heap[i]? = w.heap[i]?) {o : AObj} {b : Nat} (hb : w.heap.size ≤ b) (k : Nat) (e1 : w'.os = w.os) (e2 : w'.tape = w.tape) (e3 : w'.output = w.output) :
    Ext μ κ (upd μ h.length b) (upd κ h.length k) h (h ++ [o]) w w' where
  os := e1
  tape := e2
  output := e3
  size := hsz
  len := by simp
  agree i hi := ⟨upd_lt _ hi, upd_lt _ hi⟩
  keep b hb _ := hkeep b hb
  fresh i q hq hown := by
    rcases Nat.lt_or_ge i h.length with hil | hil
    · rw [List.getElem?_append_left hil] at hq
      exact .inl ⟨hil, q, hq, id, hown⟩
    · have := lt_of_get hq
      simp at this
      have : i = h.length := by omega
      subst this
      rw [upd_same]
      exact .inr ⟨Nat.le_refl _, .inr hb⟩

theorem HRel.update (r : HRel P G μ κ h w) {id : Nat} {o o' : AObj} (hid : h[id]? = some o) (hown : o.own = true) (hkeep : ∀ b, b ≠ μ id → w'.heap[b]? = w.heap[b]?) {bo : Obj} (hbo : w'.heap[μ id]? = some bo)
    (hr : objRel P μ κ id o' bo) (hl : AObj.le h.length o') : HRel P G μ κ (h.set id o') w' where
  obj i q hq hlive := by
    have hlt := lt_of_get hid
    by_cases e : i = id
    · subst e
      rw [List.getElem?_set_self hlt] at hq
      simp at hq; subst hq
      exact ⟨bo, hbo, hr⟩
    · rw [List.getElem?_set_ne (Ne.symm e)] at hq
      obtain ⟨b1, hb1, hr1⟩ := r.obj i q hq hlive
      exact ⟨b1, by rw [hkeep _ (Ne.symm (r.sep id i o q hid hq (Ne.symm e) hown hlive))]; exact hb1, hr1⟩
  sep i j oi oj hi hj hne ho hlv := by
    have hlt := lt_of_get hid
    by_cases e : i = id
    · subst e
      rw [List.getElem?_set_ne (by omega)] at hj
      exact r.sep i j o oj hid hj hne hown hlv
    · rw [List.getElem?_set_ne (Ne.symm e)] at hi
      by_cases e2 : j = id
      · subst e2
        exact r.sep i j oi o hi hid hne ho (AObj.live_of_own hown)
      · rw [List.getElem?_set_ne (Ne.symm e2)] at hj
        exact r.sep i j oi oj hi hj hne ho hlv
  le i q hq := by
    rw [List.length_set]
    by_cases e : i = id
    · subst e
      rw [List.getElem?_set_self (lt_of_get hid)] at hq
      simp at hq; subst hq; exact hl
    · rw [List.getElem?_set_ne (Ne.symm e)] at hq
      exact r.le i q hq
  glob g j v hg := by
    obtain ⟨q, x⟩ := r.glob g j v hg
    exact ⟨by rw [cell_congr (hkeep g (Ne.symm (r.apart id o g j v hid hown hg)))]; exact q, x⟩
  apart i q g gj gv hi hq hg := by
    by_cases e : i = id
    · subst e
      exact r.apart i o g gj gv hid hown hg
    · rw [List.getElem?_set_ne (Ne.symm e)] at hi
      exact r.apart i q g gj gv hi hq hg

theorem Ext.update {id : Nat} {o o' : AObj} (hid : h[id]? = some o) (hown : o.own = true) (hkeep : ∀ b, b ≠ μ id → w'.heap[b]? = w.heap[b]?) (hsz : w'.heap.size = w.heap.size) (e1 : w'.os = w.os) (e2 : w'.tape = w.tape) (e3 : w'.output = w.output) :
    Ext μ κ μ κ h (h.set id o') w w' where
  os := e1
  tape := e2
  output := e3
  size := by omega
  len := by simp
  agree _ _ := ⟨rfl, rfl⟩
  keep b _ hn := hkeep b (Ne.symm (hn id o hid hown))
  fresh i q hq hq2 := by
    by_cases e : i = id
    · subst e; exact .inl ⟨lt_of_get hid, o, hid, fun _ => hown, AObj.live_of_own hown⟩
    · rw [List.getElem?_set_ne (Ne.symm e)] at hq
      exact .inl ⟨lt_of_get hq, q, hq, fun x => x, hq2⟩

/-! Frames. -/
def put (fr : Frame) (d : Option Nat) (v : AV) : Frame := match d with
  | some d => (d, v) :: fr
  | none => fr
def okD (N : Nat) : Option Nat → Bool
  | none => true
  | some d => Nat.blt d N

theorem get_put (fr : Frame) (d i : Nat) (v : AV) : get (put fr (some d) v) i = if d = i then some v else get fr i := by
  simp only [put, get]
  by_cases e : d = i
  · subst e; simp
  · simp [e, beq_false_of_ne e]

theorem defers_congr {fr fr' : Frame} (e : get fr' dslot = get fr dslot) : defersOf fr' = defersOf fr := by simp [defersOf, e]

theorem toDef_congr {m : Nat} (hag : ∀ i, i < m → μ' i = μ i ∧ κ' i = κ i) {v : AV} (hl : v.le m) : toDef μ' κ' v = toDef μ κ v := by
  cases v with
  | fn f a b => simp only [toDef, concs_congr hag a hl.1, concs_congr hag b hl.2]
  | _ => rfl

theorem FRel.world {m m' : Nat} (hf : FRel N μ κ fr m a) (hag : ∀ i, i < m → μ' i = μ i ∧ κ' i = κ i) (hm : m ≤ m') : FRel N μ' κ' fr m' a where
  size := hf.size
  small := hf.small
  defers := by
    rw [hf.defers]
    apply List.map_congr_left
    intro v hv
    have := hf.dle
    rw [AVs.le_iff] at this
    exact (toDef_congr hag (this v hv)).symm
  dle := AVs.le_mono hm _ hf.dle
  slot i v hv hi := by
    have := hf.slot i v hv hi
    exact ⟨by rw [conc_congr hag v this.2]; exact this.1, AV.le_mono hm _ this.2⟩

theorem FRel.put {m : Nat} (hf : FRel N μ κ fr m a) {dst : Option Nat} (hd : okD N dst = true) {v : AV} (hv : v.le m) : FRel N μ κ (put fr dst v) m (a.put dst (conc μ κ v)) := by
  cases dst with
  | none => exact hf
  | some d =>
    have hdN : d < N := by simpa [okD, Nat.blt_eq] using hd
    have hne : d ≠ dslot := by have := hf.small; omega
    refine ⟨by simpa [Act.put] using hf.size, hf.small, ?_, ?_, ?_⟩
    · rw [defers_congr (fr' := Fm.put fr (some d) v) (fr := fr) (by rw [get_put, if_neg hne])]; exact hf.defers
    · rw [defers_congr (fr' := Fm.put fr (some d) v) (fr := fr) (by rw [get_put, if_neg hne])]; exact hf.dle
    · intro i u hu hi
      rw [get_put] at hu
      by_cases e : d = i
      · subst e
        simp at hu; subst hu
        exact ⟨by simp [Act.put, hf.size, hdN], hv⟩
      · rw [if_neg e] at hu
        have := hf.slot i u hu hi
        exact ⟨by simp only [Act.put]; rw [Array.getElem?_setIfInBounds_ne e]; exact this.1, this.2⟩

theorem FRel.junk {m : Nat} (hf : FRel N μ κ fr m a) {dst : Option Nat} (hd : ∀ d, dst = some d → get fr d = none) (u : Value) : FRel N μ κ fr m (a.put dst u) := by
  cases dst with
  | none => exact hf
  | some d =>
    refine ⟨by simpa [Act.put] using hf.size, hf.small, hf.defers, hf.dle, ?_⟩
    intro i v hv hi
    have := hf.slot i v hv hi
    refine ⟨?_, this.2⟩
    have e : d ≠ i := by
      intro e; subst e; rw [hd d rfl] at hv; simp at hv
    simp only [Act.put]; rw [Array.getElem?_setIfInBounds_ne e]; exact this.1

theorem FRel.sub {m : Nat} {fr' : Frame} (hf : FRel N μ κ fr m a) (hs : ∀ i v, get fr' i = some v → i ≠ dslot → get fr i = some v) (hd : get fr' dslot = get fr dslot) : FRel N μ κ fr' m a :=
  ⟨hf.size, hf.small, by rw [defers_congr hd]; exact hf.defers, by rw [defers_congr hd]; exact hf.dle, fun i v hv hi => hf.slot i v (hs i v hv hi) hi⟩
end
end Go.Fm
