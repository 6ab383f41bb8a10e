/- FM, a program logic over the given model with abstract values and an abstract heap: general lemmas. No statement is closed in this text. -/
import Derived.Test.YtcimapbdkmdcpaaGreatDoorFmF
set_option linter.unusedVariables false
set_option linter.unusedSimpArgs false
namespace Go.Fm
open Go

section
variable {P : Program} {Tb : TypeId → Option TInfo} {G : Nat → Nat → Option AV} {μ κ : Nat → Nat} {h : Heap} {N : Nat} {fr : Frame} {a : Act}

/-- Cells are written one behind the other. -/
theorem run_storeCells (b : Nat) (ty : TypeId) (fz : Nat × Nat) (off : Nat) : ∀ (vs : List Value) (i : Nat) (w : World) (c : Array Value), w.heap[b]? = some (.cells c ty fz) → (∀ v ∈ vs, v.oneCell' = true) → off + i + vs.length ≤ c.size →
    (∀ o, o < c.size → ¬ (fz.1 ≤ o ∧ o < fz.2)) →
    ∃ w' c', (storeCells ⟨b, off, none⟩ vs i).run P w = .ok () w' ∧ w'.heap[b]? = some (.cells c' ty fz) ∧ c'.size = c.size ∧ w'.heap.size = w.heap.size ∧ (∀ k, k ≠ b → w'.heap[k]? = w.heap[k]?) ∧
      w'.os = w.os ∧ w'.tape = w.tape ∧ w'.output = w.output ∧ ∀ j, c'[j]? = if off + i ≤ j ∧ j < off + i + vs.length then vs[j - (off + i)]? else c[j]?
  | [], i, w, c, hb, h1, hl, hz => ⟨w, c, by simp [storeCells], hb, rfl, rfl, fun _ _ => rfl, rfl, rfl, rfl, fun j => by rw [if_neg (by simp)]⟩
  | v :: t, i, w, c, hb, h1, hl, hz => by
    have hi : off + i < c.size := by simp at hl; omega
    have hcell : w.cell? ⟨b, off + i, none⟩ = some c[off + i] := by simp [World.cell?, hb, hi]
    have hfz : w.frozen? ⟨b, off + i, none⟩ = false := by
      have := hz _ hi
      simp [World.frozen?, hb]
      simpa using this
    have hb' : (w.setCell ⟨b, off + i, none⟩ v).heap[b]? = some (.cells (c.setIfInBounds (off + i) v) ty fz) := by
      simp [World.setCell, Array.getElem?_modify, hb]
    obtain ⟨w', c', e1, e2, e3, e4, e5, e6, e7, e8, e9⟩ := run_storeCells b ty fz off t (i + 1) (w.setCell ⟨b, off + i, none⟩ v) _ hb' (fun u hu => h1 u (List.mem_cons_of_mem _ hu)) (by simp at hl ⊢; omega)
      (fun o ho => hz o (by simpa using ho))
    refine ⟨w', c', ?_, e2, by simpa using e3, by rw [e4]; simp [World.setCell], fun k hk => by rw [e5 k hk]; exact Go.RowKit.Below.heap_setCell _ _ _ _ hk, e6, e7, e8, fun j => ?_⟩
    · simp only [storeCells, Sem.run_bind, Addr.add_lit, run_store P w ⟨b, off + i, none⟩ v .plain (h1 v (List.mem_cons_self ..)), hcell, hfz, Bool.false_eq_true, if_false, Result.andThen_ok, e1]
    · rw [e9 j]
      by_cases hj : off + (i + 1) ≤ j ∧ j < off + (i + 1) + t.length
      · rw [if_pos hj, if_pos (by simp; omega)]
        have : j - (off + i) = (j - (off + (i + 1))) + 1 := by omega
        rw [this, List.getElem?_cons_succ]
      · rw [if_neg hj]
        by_cases hj2 : j = off + i
        · subst hj2
          rw [if_pos (by simp)]
          simp [hi]
        · rw [Array.getElem?_setIfInBounds_ne (Ne.symm hj2), if_neg (by simp; omega)]

theorem store_obj {w : World} (hh : HRel P G μ κ h w) {id off : Nat} {cs cs' : List AV} {ty : TypeId} {opn : Bool} (ho : h[id]? = some (.cells cs ty opn true)) {vs : List AV} (hv : over cs off vs = some cs') (h1 : allOne vs = true) (hl : AVs.le h.length vs) :
    ∃ w', (storeCells ⟨μ id, off, none⟩ (concs μ κ vs)).run P w = .ok () w' ∧ HRel P G μ κ (h.set id (.cells cs' ty opn true)) w' ∧ Ext μ κ μ κ h (h.set id (.cells cs' ty opn true)) w w' := by
  obtain ⟨bo, hb, c, fz, extra, rfl, e2, e3, e4, e5⟩ := hh.obj id _ ho rfl
  obtain ⟨o1, o2, o3⟩ := over_some hv
  have hcl : (concs μ κ cs).length ≤ c.size := by rw [← Array.length_toList, e2]; simp
  rw [concs_length] at hcl
  obtain ⟨w', c', r1, r2, r3, r4, r5, r6, r7, r8, r9⟩ := run_storeCells (P := P) (μ id) ty fz off (concs μ κ vs) 0 w c hb
    (fun v hv => by rw [concs_map] at hv; obtain ⟨x, hx, rfl⟩ := List.mem_map.1 hv; exact one_conc μ κ (allOne_mem h1 x hx)) (by rw [concs_length]; omega) (e5 rfl)
  refine ⟨w', r1, ?_, Ext.update ho rfl r5 r4 r6 r7 r8⟩
  refine hh.update ho rfl r5 r2 ⟨c', fz, extra, rfl, ?_, e3, fun q => by rw [r3]; exact e4 q, fun q => by rw [r3]; exact e5 q⟩ ?_
  · apply List.ext_getElem?
    intro j
    rw [Array.getElem?_toList, r9 j, concs_length]
    simp only [Nat.add_zero]
    by_cases hj : off ≤ j ∧ j < off + vs.length
    · rw [if_pos hj, List.getElem?_append_left (by rw [concs_length]; omega), concs_get, concs_get, o3 j, if_pos hj]
    · rw [if_neg hj, ← Array.getElem?_toList, e2]
      by_cases hj2 : j < cs.length
      · rw [List.getElem?_append_left (by rw [concs_length]; omega), List.getElem?_append_left (by rw [concs_length]; omega), concs_get, concs_get, o3 j, if_neg hj]
      · rw [List.getElem?_append_right (by rw [concs_length]; omega), List.getElem?_append_right (by rw [concs_length]; omega), concs_length, concs_length, o1]
  · show AVs.le h.length cs'
    have q := hh.le id _ ho
    have q : AVs.le h.length cs := q
    rw [AVs.le_iff] at *
    intro v hv
    obtain ⟨j, hj⟩ := List.getElem?_of_mem hv
    rw [o3 j] at hj
    split at hj
    · exact hl v (List.mem_of_getElem? hj)
    · exact q v (List.mem_of_getElem? hj)

/-- A store through a pointer. -/
theorem st_store (hT : TbOk P Tb) {o : Oper} {t : TypeId} {p x : Operand} {id off : Nat} {v : AV} {i : TInfo} {cs cs' : List AV} {ty : TypeId} {opn : Bool} (ho : o.op = .store t p x) (hp : ev fr p = some (.ptr id off)) (hx : ev fr x = some v)
    (hi : Tb t = some i) (hsz : Nat.beq v.cells.length i.size = true) (hob : nth h id = some (.cells cs ty opn true)) (hov : over cs off v.cells = some cs') (h1 : allOne v.cells = true) : StoreTo P G o fr h (setNth h id (.cells cs' ty opn true)) := by
  intro N μ κ a w hh hf
  obtain ⟨ti, d, ht⟩ := hT t i hi
  have e1 := ev_sound hf hp
  have e2 := ev_sound hf hx
  have hsz := Nat.eq_of_beq_eq_true hsz
  rw [nth_eq] at hob
  obtain ⟨w', r, hh', hx'⟩ := store_obj hh hob hov h1 (cells_le e2.2)
  rw [setNth_eq]
  refine ⟨μ, κ, w', ?_, hh', hx'⟩
  have hc := cells_conc μ κ v
  have hcs : (conc μ κ v).cells.size = i.size := by rw [← Array.length_toList, hc, concs_length, hsz]
  have key : (storeVar t ⟨μ id, off, none⟩ (conc μ κ v)).run P w = .ok () w' := by
    simp [storeVar, ht.run_size, hcs, hc, r]
  simp only [execOp, ho, e1.1, e2.1, conc, Instr.storeAt, Instr.sureAddr, Sem.run_bind, Sem.run_pure, Result.andThen_ok, key]

theorem HRel.new {w : World} (hh : HRel P G μ κ h w) {cs : List AV} (t : TypeId) (hl : AVs.le h.length cs) :
    HRel P G (upd μ h.length w.heap.size) (upd κ h.length 0) (h ++ [.cells cs t false true]) { w with heap := w.heap.push (.cells (concs μ κ cs).toArray t) } ∧
    Ext μ κ (upd μ h.length w.heap.size) (upd κ h.length 0) h (h ++ [.cells cs t false true]) w { w with heap := w.heap.push (.cells (concs μ κ cs).toArray t) } := by
  have hk : ∀ i, i < w.heap.size → (w.heap.push (Obj.cells (concs μ κ cs).toArray t))[i]? = w.heap[i]? := fun i hi => by rw [Array.getElem?_push, if_neg (by omega)]
  refine ⟨hh.push 0 (by simp) hk (Nat.le_refl _) hl (by simp) ⟨(concs μ κ cs).toArray, (0, 0), [], rfl, ?_, fun _ => rfl, by simp, by simp⟩, Ext.push w (by simp) hk (Nat.le_refl _) 0 rfl rfl rfl⟩
  simp only [List.append_nil]
  exact (concs_congr (n := h.length) (fun i hi => ⟨upd_lt _ hi, upd_lt _ hi⟩) cs hl).symm

theorem st_box {o : Oper} {t : TypeId} {x : Operand} {v : AV} (ho : o.op = .box t x) (hx : ev fr x = some v) : StepTo P G o fr h (.ptr h.length 0) (h ++ [.cells v.cells t false true]) := by
  intro N μ κ a w hh hf
  have e := ev_sound hf hx
  obtain ⟨r1, r2⟩ := hh.new t (cells_le e.2)
  refine ⟨_, _, _, ?_, r1, by simp [AV.le], r2⟩
  have hc : (conc μ κ v).cells = (concs μ κ v.cells).toArray := by apply Array.ext'; simp [cells_conc]
  simp [execOp, ho, e.1, Instr.box, newVar, newRow, hc, conc, upd_same]

theorem st_alloc (hT : TbOk P Tb) {o : Oper} {t : TypeId} {i : TInfo} {z : AV} (ho : o.op = .alloc t) (hi : Tb t = some i) (hz : i.zero = some z) : StepTo P G o fr h (.ptr h.length 0) (h ++ [.cells z.cells t false true]) := by
  intro N μ κ a w hh hf
  obtain ⟨ti, d, ht⟩ := hT t i hi
  have e := ht.run_zero w hz μ κ
  obtain ⟨r1, r2⟩ := hh.new t (cells_le (AV.le_mono (Nat.zero_le _) _ e.2))
  refine ⟨_, _, _, ?_, r1, by simp [AV.le], r2⟩
  have hc : (conc μ κ z).cells = (concs μ κ z.cells).toArray := by apply Array.ext'; simp [cells_conc]
  simp [execOp, ho, e.1, Instr.alloc, newVar, newRow, hc, conc, upd_same]
end

/-! Literals of structs, arrays, slices. -/
def fillA (place : Nat → Option (Nat × Nat)) (cells : List AV) : List (Nat × AV) → Option (List AV)
  | [] => some cells
  | (i, v) :: t => match place i with
    | none => none
    | some (off, size) => match Nat.beq v.cells.length size with
      | true => match over cells off v.cells with
        | some cells' => fillA place cells' t
        | none => none
      | false => none

def evParts (fr : Frame) : List (Nat × Operand) → Option (List (Nat × AV))
  | [] => some []
  | (i, x) :: t => match ev fr x, evParts fr t with
    | some v, some l => some ((i, v) :: l)
    | _, _ => none

theorem foldl_set (off : Nat) : ∀ (l : List Value) (k : Nat) (c : Array Value), off + k + l.length ≤ c.size →
    ((l.zipIdx k).foldl (fun cs (x : Value × Nat) => cs.setIfInBounds (off + x.2) x.1) c).size = c.size ∧
    ∀ j, ((l.zipIdx k).foldl (fun cs (x : Value × Nat) => cs.setIfInBounds (off + x.2) x.1) c)[j]? = if off + k ≤ j ∧ j < off + k + l.length then l[j - (off + k)]? else c[j]?
  | [], k, c, _ => ⟨rfl, fun j => by rw [if_neg (by simp)]; rfl⟩
  | v :: t, k, c, hl => by
    have ih := foldl_set off t (k + 1) (c.setIfInBounds (off + k) v) (by simp at hl ⊢; omega)
    simp only [List.zipIdx_cons, List.foldl_cons]
    refine ⟨by rw [ih.1]; simp, fun j => ?_⟩
    rw [ih.2 j]
    simp at hl
    by_cases hj : off + (k + 1) ≤ j ∧ j < off + (k + 1) + t.length
    · rw [if_pos hj, if_pos (by simp; omega)]
      have : j - (off + k) = (j - (off + (k + 1))) + 1 := by omega
      rw [this, List.getElem?_cons_succ]
    · rw [if_neg hj]
      by_cases hj2 : j = off + k
      · subst hj2
        rw [if_pos (by simp)]
        have : off + k < c.size := by omega
        simp [this]
      · rw [Array.getElem?_setIfInBounds_ne (Ne.symm hj2), if_neg (by simp; omega)]

section
variable {P : Program} {Tb : TypeId → Option TInfo} {G : Nat → Nat → Option AV} {μ κ : Nat → Nat} {h : Heap} {N : Nat} {fr : Frame} {a : Act} {n : Nat}

theorem fillA_sound (place : Nat → Option (Nat × Nat)) : ∀ {parts : List (Nat × AV)} {cells out : List AV}, fillA place cells parts = some out → AVs.le n cells → (∀ p ∈ parts, p.2.le n) →
    Instr.fill place (concs μ κ cells).toArray (parts.map fun p => (p.1, conc μ κ p.2)) = some (concs μ κ out).toArray ∧ AVs.le n out ∧ out.length = cells.length
  | [], cells, out, e, hl, _ => by simp [fillA] at e; subst e; exact ⟨by simp [Instr.fill], hl, rfl⟩
  | (i, v) :: t, cells, out, e, hl, hp => by
    simp only [fillA] at e
    split at e
    · simp at e
    · rename_i off size hpl
      split at e
      · rename_i hsz
        have hsz := Nat.eq_of_beq_eq_true hsz
        split at e
        · rename_i cells' hov
          obtain ⟨o1, o2, o3⟩ := over_some hov
          have hvl := cells_le (hp (i, v) (List.mem_cons_self ..))
          have hl' : AVs.le n cells' := by
            rw [AVs.le_iff] at *
            intro x hx
            obtain ⟨j, hj⟩ := List.getElem?_of_mem hx
            rw [o3 j] at hj
            split at hj
            · exact hvl x (List.mem_of_getElem? hj)
            · exact hl x (List.mem_of_getElem? hj)
          have ih := fillA_sound place e hl' (fun p hp' => hp p (List.mem_cons_of_mem _ hp'))
          refine ⟨?_, ih.2.1, by rw [ih.2.2, o1]⟩
          have hc := cells_conc μ κ v
          have hcs : (conc μ κ v).cells.size = size := by rw [← Array.length_toList, hc, concs_length, hsz]
          have hfl := foldl_set off (concs μ κ v.cells) 0 (concs μ κ cells).toArray (by simp [concs_length]; omega)
          simp only [List.map_cons, Instr.fill, hpl, hcs]
          rw [if_neg (by simp [concs_length]; omega)]
          have e2 : (conc μ κ v).cells.zipIdx.foldl (fun cs (x : Value × Nat) => cs.setIfInBounds (off + x.2) x.1) (concs μ κ cells).toArray = (concs μ κ cells').toArray := by
            rw [← Array.foldl_toList, Array.toList_zipIdx, hc]
            apply Array.ext'
            apply List.ext_getElem?
            intro j
            rw [Array.getElem?_toList, hfl.2 j]
            simp only [Nat.add_zero, concs_length, List.getElem?_toArray, concs_get, o3 j]
            by_cases hj : off ≤ j ∧ j < off + v.cells.length
            · rw [if_pos hj, if_pos hj]
            · rw [if_neg hj, if_neg hj]
          rw [← ih.1]
          congr 1
        · simp at e
      · simp at e

theorem evParts_sound (hf : FRel N μ κ fr n a) : ∀ {l : List (Nat × Operand)} {ps : List (Nat × AV)}, evParts fr l = some ps →
    (l.map fun (p : Nat × Operand) => (p.1, a.eval p.2)) = ps.map (fun p => (p.1, conc μ κ p.2)) ∧ ∀ p ∈ ps, p.2.le n
  | [], ps, e => by simp [evParts] at e; subst e; simp
  | (i, x) :: t, ps, e => by
    simp only [evParts] at e
    cases hx : ev fr x with
    | none => simp [hx] at e
    | some v =>
      cases ht : evParts fr t with
      | none => simp [hx, ht] at e
      | some l =>
        simp [hx, ht] at e; subst e
        have p := ev_sound hf hx
        have q := evParts_sound hf ht
        refine ⟨by simp [p.1, q.1], fun r hr => ?_⟩
        rcases List.mem_cons.1 hr with rfl | hr
        · exact p.2
        · exact q.2 r hr
end
end Go.Fm
