/- A part of the proofs over this seat: what functions of the program compute, shown once each. No statement of the seat is closed in this text. -/
import Derived.Test.YtcimapbdkmdcpaaGreatDoorHm
set_option linter.all false
set_option linter.unusedVariables false
namespace Go.Proofs
open Go.Fm

/-! The plain law of ConnsBound: no program in sight. -/
theorem nodup_len : ∀ (m l : List Int), m.Nodup → (∀ x ∈ m, x ∈ l) → m.length ≤ l.length
  | [], l, _, _ => by simp
  | a :: t, l, hn, hs => by
    rw [List.nodup_cons] at hn
    have ha : a ∈ l := hs a (by simp)
    have := nodup_len t (l.erase a) hn.2 (fun x hx => by
      have hne : x ≠ a := fun e => hn.1 (e ▸ hx)
      rw [List.mem_erase_of_ne hne]; exact hs x (List.mem_cons_of_mem _ hx))
    have h1 := List.length_erase_of_mem ha
    have h2 : 0 < l.length := List.length_pos_of_mem ha
    simp only [List.length_cons]
    omega

structure Inv (i : Nat) (l : List Cn) (next : Int) (mine : List Int) : Prop where
  sorted : l.Pairwise (fun x y => x.id < y.id)
  ids : ∀ x ∈ l, 0 ≤ x.id ∧ x.id < next
  nx : 0 ≤ next ∧ next ≤ i
  giv : ∀ x ∈ l, x.given ≤ 300
  len : l.length ≤ 32
  cn : ∀ k, cnt k l ≤ 6
  nod : mine.Nodup
  taken : ∀ id ∈ mine, ∃ x ∈ l, x.id = id ∧ x.given < 0

theorem sorted_get {l : List Cn} (h : l.Pairwise (fun x y => x.id < y.id)) {a b : Nat} {x y : Cn} (hab : a < b) (hx : l[a]? = some x) (hy : l[b]? = some y) : x.id < y.id := by
  rw [List.pairwise_iff_getElem] at h
  obtain ⟨ha, rfl⟩ := List.getElem?_eq_some_iff.1 hx
  obtain ⟨hb, rfl⟩ := List.getElem?_eq_some_iff.1 hy
  exact h a b ha hb hab
theorem place_iff {l : List Cn} (h : l.Pairwise (fun x y => x.id < y.id)) {p : Nat} {x : Cn} (hx : l[p]? = some x) : ∀ (k : Nat) (y : Cn), l[k]? = some y → (y.id < x.id ↔ k < p) := by
  intro k y hy
  rcases Nat.lt_trichotomy k p with q | q | q
  · exact ⟨fun _ => q, fun _ => sorted_get h q hy hx⟩
  · subst q; rw [hx] at hy; cases hy; omega
  · have := sorted_get h q hx hy; omega
theorem same_id {l : List Cn} (h : l.Pairwise (fun x y => x.id < y.id)) {x y : Cn} (hx : x ∈ l) (hy : y ∈ l) (e : x.id = y.id) : x = y := by
  obtain ⟨a, ha⟩ := List.getElem?_of_mem hx
  obtain ⟨b, hb⟩ := List.getElem?_of_mem hy
  rcases Nat.lt_trichotomy a b with q | q | q
  · have := sorted_get h q ha hb; omega
  · subst q; rw [ha] at hb; exact Option.some.inj hb
  · have := sorted_get h q hb ha; omega

/-- A given one is changed. -/
theorem set_sorted {l : List Cn} (h : l.Pairwise (fun x y => x.id < y.id)) {p : Nat} {x y : Cn} (hx : l[p]? = some x) (e : y.id = x.id) : (l.set p y).Pairwise (fun x y => x.id < y.id) := by
  have : ∀ m : List Cn, (m.map (·.id)).Pairwise (· < ·) ↔ m.Pairwise (fun x y => x.id < y.id) := fun m => List.pairwise_map
  rw [← this] at h ⊢
  rw [List.map_set, e]
  have hp := get_lt hx
  have : (l.map (·.id)).set p x.id = l.map (·.id) := by
    apply List.ext_getElem?
    intro j
    rw [List.getElem?_set]
    split
    · rename_i q; subst q; rw [if_pos (by simpa using hp), List.getElem?_map, hx]; rfl
    · rfl
  rw [this]; exact h
theorem set_cnt {l : List Cn} {p : Nat} {x y : Cn} (hx : l[p]? = some x) (e : y.k = x.k) (k : Ky) : cnt k (l.set p y) = cnt k l := by
  unfold cnt
  rw [set_at hx]
  conv => rhs; rw [split_at hx]
  simp only [List.filter_append, List.length_append, List.filter_cons, e]
  split <;> simp
theorem mem_set {l : List Cn} {p : Nat} {y z : Cn} (h : z ∈ l.set p y) : z ∈ l ∨ z = y := List.mem_or_eq_of_mem_set h
theorem mem_set_of {l : List Cn} {p : Nat} {x y z : Cn} (hx : l[p]? = some x) (hz : z ∈ l) (hne : z ≠ x) : z ∈ l.set p y := by
  obtain ⟨j, hj⟩ := List.getElem?_of_mem hz
  have : j ≠ p := by rintro rfl; rw [hx] at hj; exact hne (Option.some.inj hj).symm
  refine List.mem_of_getElem? (i := j) ?_
  rw [List.getElem?_set_ne (Ne.symm this)]; exact hj
theorem mem_erase {l : List Cn} {p : Nat} {x z : Cn} (hx : l[p]? = some x) (hz : z ∈ l) (hne : z ≠ x) : z ∈ l.eraseIdx p := by
  rw [split_at hx] at hz
  rw [List.eraseIdx_eq_take_drop_succ]
  simp only [List.mem_append, List.mem_cons] at hz ⊢
  rcases hz with q | q | q
  · exact .inl q
  · exact absurd q hne
  · exact .inr q
theorem cnt_erase {l : List Cn} {p : Nat} {x : Cn} (hx : l[p]? = some x) (k : Ky) : cnt k (l.eraseIdx p) + (if x.k = k then 1 else 0) = cnt k l := by
  unfold cnt
  rw [List.eraseIdx_eq_take_drop_succ]
  conv => rhs; rw [split_at hx]
  simp only [List.filter_append, List.length_append, List.filter_cons]
  by_cases h : x.k = k
  · simp [h]; omega
  · simp [h]
theorem cnt_snoc (l : List Cn) (x : Cn) (k : Ky) : cnt k (l ++ [x]) = cnt k l + if x.k = k then 1 else 0 := by
  unfold cnt
  rw [List.filter_append, List.length_append]
  congr 1
  by_cases h : x.k = k <;> simp [h]

theorem Inv.give {i : Nat} {l : List Cn} {next : Int} {mine : List Int} (h : Inv i l next mine) {at' : Nat} {id now : Int} (ha : mine[at']? = some id) (hn : 0 ≤ now ∧ now ≤ 300) :
    ∃ (p : Nat) (x : Cn), l[p]? = some x ∧ x.id = id ∧ x.given < 0 ∧ Inv i (l.set p { x with given := now }) next (mine.take at' ++ mine.drop (at' + 1)) := by
  obtain ⟨x, hx, hid, hg⟩ := h.taken id (List.mem_of_getElem? ha)
  obtain ⟨p, hp⟩ := List.getElem?_of_mem hx
  have hmine : mine = mine.take at' ++ id :: mine.drop (at' + 1) := split_at ha
  have hnod := h.nod
  rw [hmine] at hnod
  have hperm : (mine.take at' ++ id :: mine.drop (at' + 1)).Perm (id :: (mine.take at' ++ mine.drop (at' + 1))) := List.perm_middle
  have hnod2 := hperm.nodup_iff.1 hnod
  rw [List.nodup_cons] at hnod2
  refine ⟨p, x, hp, hid, hg, set_sorted h.sorted hp rfl, ?_, h.nx, ?_, by rw [List.length_set]; exact h.len, fun k => by rw [set_cnt (y := { x with given := now }) hp rfl]; exact h.cn k, hnod2.2, ?_⟩
  · intro z hz
    rcases mem_set hz with q | q
    · exact h.ids z q
    · subst q; exact h.ids x hx
  · intro z hz
    rcases mem_set hz with q | q
    · exact h.giv z q
    · subst q; exact hn.2
  · intro w hw
    have hw' : w ∈ mine := by
      rw [hmine]
      simp only [List.mem_append, List.mem_cons] at hw ⊢
      rcases hw with q | q
      · exact .inl q
      · exact .inr (.inr q)
    obtain ⟨z, hz, hzi, hzg⟩ := h.taken w hw'
    have hne : z ≠ x := by
      rintro rfl
      rw [hid] at hzi
      subst hzi
      exact hnod2.1 hw
    exact ⟨z, mem_set_of hp hz hne, hzi, hzg⟩

theorem Inv.len_le {i : Nat} {l : List Cn} {next : Int} {mine : List Int} (h : Inv i l next mine) : mine.length ≤ l.length := by
  have := nodup_len mine (l.map (·.id)) h.nod (fun id hid => by
    obtain ⟨x, hx, e, _⟩ := h.taken id hid
    exact List.mem_map.2 ⟨x, hx, e⟩)
  simpa using this

theorem Inv.take {i : Nat} {l : List Cn} {next : Int} {mine : List Int} (h : Inv i l next mine) {k : Ky} {id err next' : Int} {fresh : Bool} {l' : List Cn} (t : TakePost l next k id fresh err l' next') :
    (err = 12 ∧ l ≠ [] ∧ l' = l ∧ Inv (i + 1) l' next' mine) ∨ (err = 0 ∧ id ∉ mine ∧ ∃ (p : Nat) (x : Cn), l'[p]? = some x ∧ x.id = id ∧ x.k = k ∧ Inv (i + 1) l' next' (mine ++ [id])) := by
  rcases t with ⟨rfl, rfl, j, x, hx, hxk, hxg, rfl, rfl⟩ | ⟨rfl, rfl, rfl, hf⟩ | ⟨rfl, rfl, rfl, l0, rfl, hl0⟩
  · have hxm := List.mem_of_getElem? hx
    have hnot : x.id ∉ mine := fun hm => by
      obtain ⟨z, hz, hzi, hzg⟩ := h.taken _ hm
      have := same_id h.sorted hz hxm hzi
      subst this; omega
    refine .inr ⟨rfl, hnot, j, { x with given := -1 }, List.getElem?_set_self (get_lt hx), rfl, hxk, set_sorted h.sorted hx rfl, ?_, ⟨h.nx.1, by have := h.nx.2; omega⟩, ?_, by rw [List.length_set]; exact h.len, fun k => by rw [set_cnt (y := { x with given := -1 }) hx rfl]; exact h.cn k, ?_, ?_⟩
    · intro z hz
      rcases mem_set hz with q | q
      · exact h.ids z q
      · subst q; exact h.ids x hxm
    · intro z hz
      rcases mem_set hz with q | q
      · exact h.giv z q
      · subst q; show (-1 : Int) ≤ 300; decide
    · have hp : (mine ++ [x.id]).Perm (x.id :: mine) := by simpa using (List.perm_append_comm (l₁ := mine) (l₂ := [x.id]))
      exact hp.nodup_iff.2 (List.nodup_cons.2 ⟨hnot, h.nod⟩)
    · intro w hw
      rw [List.mem_append, List.mem_singleton] at hw
      rcases hw with q | q
      · obtain ⟨z, hz, hzi, hzg⟩ := h.taken w q
        have hne : z ≠ x := by rintro rfl; omega
        exact ⟨z, mem_set_of hx hz hne, hzi, hzg⟩
      · exact ⟨{ x with given := -1 }, List.mem_of_getElem? (List.getElem?_set_self (get_lt hx)), q.symm, by show (-1 : Int) < 0; decide⟩
  · refine .inl ⟨rfl, ?_, rfl, h.sorted, h.ids, ⟨h.nx.1, by have := h.nx.2; omega⟩, h.giv, h.len, h.cn, h.nod, h.taken⟩
    rintro rfl
    simp [cnt] at hf
  · -- a new one
    have hnx := h.nx
    have base : l0.Pairwise (fun x y => x.id < y.id) ∧ (∀ x ∈ l0, x ∈ l) ∧ l0.length ≤ 31 ∧ (∀ k', cnt k' l0 + (if k = k' then 1 else 0) ≤ 6) ∧ (∀ id ∈ mine, ∃ x ∈ l0, x.id = id ∧ x.given < 0) := by
      rcases hl0 with ⟨rfl, h1, h2⟩ | ⟨j, x, hx, hxg, rfl, hc⟩
      · refine ⟨h.sorted, fun _ q => q, by omega, fun k' => ?_, h.taken⟩
        split
        · rename_i q; subst q; omega
        · exact h.cn k'
      · have hj := get_lt hx
        refine ⟨h.sorted.sublist (List.eraseIdx_sublist _ _), fun z hz => (List.eraseIdx_sublist l j).subset hz, ?_, fun k' => ?_, fun w hw => ?_⟩
        · rw [List.length_eraseIdx, if_pos hj]; have := h.len; omega
        · have e := cnt_erase hx k'
          have := h.cn k'
          by_cases q : k = k'
          · subst q
            rw [if_pos rfl]
            rcases hc with ⟨q1, q2⟩ | ⟨q1, q2⟩
            · rw [if_pos q1] at e; omega
            · omega
          · rw [if_neg q]; omega
        · obtain ⟨z, hz, hzi, hzg⟩ := h.taken w hw
          exact ⟨z, mem_erase hx hz (by rintro rfl; omega), hzi, hzg⟩
    obtain ⟨b1, b2, b3, b4, b5⟩ := base
    have hnot : id ∉ mine := fun hm => by
      obtain ⟨z, hz, hzi, _⟩ := h.taken _ hm
      have := (h.ids z hz).2
      omega
    refine .inr ⟨rfl, hnot, l0.length, ⟨id, k.sealed, k.host, k.port, -1⟩, by simp, rfl, rfl, ?_, ?_, ⟨by omega, by omega⟩, ?_, by simp; omega, fun k' => ?_, ?_, ?_⟩
    · rw [List.pairwise_append]
      refine ⟨b1, by simp, fun x hx y hy => ?_⟩
      rw [List.mem_singleton] at hy
      subst hy
      exact (h.ids x (b2 x hx)).2
    · intro z hz
      rw [List.mem_append, List.mem_singleton] at hz
      rcases hz with q | q
      · have := h.ids z (b2 z q); omega
      · subst q; exact ⟨hnx.1, by dsimp only; omega⟩
    · intro z hz
      rw [List.mem_append, List.mem_singleton] at hz
      rcases hz with q | q
      · exact h.giv z (b2 z q)
      · subst q; show (-1 : Int) ≤ 300; decide
    · rw [cnt_snoc]; exact b4 k'
    · have hp : (mine ++ [id]).Perm (id :: mine) := by simpa using (List.perm_append_comm (l₁ := mine) (l₂ := [id]))
      exact hp.nodup_iff.2 (List.nodup_cons.2 ⟨hnot, h.nod⟩)
    · intro w hw
      rw [List.mem_append, List.mem_singleton] at hw
      rcases hw with q | q
      · obtain ⟨z, hz, hzi, hzg⟩ := b5 w q
        exact ⟨z, List.mem_append_left _ hz, hzi, hzg⟩
      · exact ⟨⟨id, k.sealed, k.host, k.port, -1⟩, by simp, q.symm, by show (-1 : Int) < 0; decide⟩
end Go.Proofs
