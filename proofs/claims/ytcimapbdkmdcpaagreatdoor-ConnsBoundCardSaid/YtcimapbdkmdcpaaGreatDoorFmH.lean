/- FM, a program logic over the given model with abstract values and an abstract heap: general lemmas. No statement is closed in this text. -/
import Derived.Test.YtcimapbdkmdcpaaGreatDoorFmG
set_option linter.unusedVariables false
set_option linter.unusedSimpArgs false
namespace Go.Fm
open Go

def placesA (Tb : TypeId → Option TInfo) (fs : List (Nat × TypeId)) (i : Nat) : Option (Nat × Nat) :=
  match nth fs i with
  | some (off, t) => match Tb t with
    | some fi => some (off, fi.size)
    | none => none
  | none => none

def allIn (Tb : TypeId → Option TInfo) : List (Nat × TypeId) → Bool
  | [] => true
  | (_, t) :: r => match Tb t with
    | some _ => allIn Tb r
    | none => false

/-- A struct or an array out of its parts. -/
def buildA (Tb : TypeId → Option TInfo) (t : TypeId) (parts : List (Nat × AV)) : Option AV :=
  match Tb t with
  | some i => match i.zero with
    | some z => match i.uk with
      | .strct fs => match allIn Tb fs with
        | true => match fillA (placesA Tb fs) z.cells parts with
          | some cs => some (.agg cs)
          | none => none
        | false => none
      | .arr _ e => match Tb e with
        | some ei => match fillA (fun j => some (j * ei.size, ei.size)) z.cells parts with
          | some cs => some (.agg cs)
          | none => none
        | none => none
      | _ => none
    | none => none
  | none => none

section
variable {P : Program} {Tb : TypeId → Option TInfo} {G : Nat → Nat → Option AV} {μ κ : Nat → Nat} {h : Heap} {N : Nat} {fr : Frame} {a : Act} {w : World}

theorem places_run (hT : TbOk P Tb) : ∀ (fl : List Field), allIn Tb (fl.map fun x => (x.offset, x.type)) = true →
    ∃ ps, (fl.mapM fun (f : Field) => (do pure (f.offset, ← sizeOf f.type) : Sem (Nat × Nat))).run P w = .ok ps w ∧ ∀ j, ps[j]? = placesA Tb (fl.map fun x => (x.offset, x.type)) j
  | [], _ => ⟨[], rfl, fun j => by simp [placesA, nth]⟩
  | f :: t, e => by
    simp only [List.map_cons, allIn] at e
    split at e
    · rename_i fi hfi
      obtain ⟨_, d, ht⟩ := hT _ _ hfi
      obtain ⟨ps, h1, h2⟩ := places_run hT t e
      refine ⟨(f.offset, fi.size) :: ps, ?_, fun j => ?_⟩
      · simp only [List.mapM_cons, Sem.run_bind, ht.run_size, Result.andThen_ok, Sem.run_pure, h1]
      · cases j with
        | zero => simp [placesA, nth, hfi]
        | succ j => simpa [placesA, nth] using h2 j
    · simp at e

theorem buildA_sound (hT : TbOk P Tb) {t : TypeId} {parts : List (Nat × AV)} {v : AV} (hv : buildA Tb t parts = some v) {n : Nat} (hp : ∀ p ∈ parts, p.2.le n) :
    (Instr.build t (parts.map fun p => (p.1, conc μ κ p.2)).toArray).run P w = .ok (conc μ κ v) w ∧ v.le n := by
  unfold buildA at hv
  split at hv
  · rename_i i hi
    obtain ⟨ti, d, ht⟩ := hT t i hi
    have hu := ht.uk
    split at hv
    · rename_i z hz
      have e := ht.run_zero w hz μ κ
      have hc : (conc μ κ z).cells = (concs μ κ z.cells).toArray := by apply Array.ext'; simp [cells_conc]
      have hzl : AVs.le n z.cells := cells_le (AV.le_mono (Nat.zero_le _) _ e.2)
      split at hv
      · rename_i fs hk
        simp only [hk, ukRel] at hu
        obtain ⟨fl, rfl, hfl⟩ := hu
        split at hv
        · rename_i hall
          split at hv
          · rename_i cs hcs
            simp at hv; subst hv
            subst hfl
            have q := fillA_sound (μ := μ) (κ := κ) _ hcs hzl hp
            obtain ⟨ps, p1, p2⟩ := places_run (w := w) hT fl.toList hall
            have pe : (fun j => ps.toArray[j]?) = placesA Tb (fl.toList.map fun x => (x.offset, x.type)) := by
              funext j; rw [← p2 j]; simp
            have hm : (fl.mapM fun (f : Field) => (do pure (f.offset, ← sizeOf f.type) : Sem (Nat × Nat))).run P w = .ok ps.toArray w := by
              rw [Array.mapM_eq_mapM_toList]
              simp only [Sem.run_map, p1, Result.andThen_ok]
            refine ⟨?_, q.2.1⟩
            simp only [Instr.build, Sem.run_bind, e.1, ht.run_underlying, Result.andThen_ok, hm, hc]
            rw [pe, q.1]; rfl
          · simp at hv
        · simp at hv
      · rename_i m el hk
        simp only [hk, ukRel] at hu
        subst hu
        split at hv
        · rename_i ei hei
          obtain ⟨_, d2, hte⟩ := hT _ _ hei
          split at hv
          · rename_i cs hcs
            simp at hv; subst hv
            have q := fillA_sound (μ := μ) (κ := κ) _ hcs hzl hp
            refine ⟨?_, q.2.1⟩
            simp only [Instr.build, Sem.run_bind, e.1, ht.run_underlying, Result.andThen_ok, hte.run_size, hc]
            rw [q.1]; rfl
          · simp at hv
        · simp at hv
      · simp at hv
    · simp at hv
  · simp at hv

theorem st_build (hT : TbOk P Tb) {o : Oper} {t : TypeId} {ps : Array (Nat × Operand)} {vs : List (Nat × AV)} {v : AV} (ho : o.op = .build t ps) (hp : evParts fr ps.toList = some vs) (hv : buildA Tb t vs = some v) : StepTo P G o fr h v h := by
  intro N μ κ a w hh hf
  have q := evParts_sound hf hp
  have r := buildA_sound (w := w) (μ := μ) (κ := κ) hT hv q.2
  refine ⟨μ, κ, w, ?_, hh, r.2, Ext.refl _ _ _ _⟩
  have e : (ps.map fun (i, x) => (i, a.eval x)) = (vs.map fun p => (p.1, conc μ κ p.2)).toArray := by
    apply Array.ext'; simp only [Array.toList_map]; exact q.1
  simp only [execOp, ho, Sem.run_bind]
  rw [e, r.1]; rfl

def repl : Nat → List AV → List AV
  | 0, _ => []
  | n + 1, z => z ++ repl n z
theorem repl_length : ∀ (n : Nat) (z : List AV), (repl n z).length = n * z.length
  | 0, z => by simp [repl]
  | n + 1, z => by simp [repl, repl_length n z, Nat.add_mul, Nat.add_comm]
theorem repl_get : ∀ (n : Nat) (z : List AV) (j : Nat), j < n * z.length → (repl n z)[j]? = z[j % z.length]?
  | 0, z, j, h => by simp at h
  | n + 1, z, j, h => by
    simp only [repl]
    by_cases hj : j < z.length
    · rw [List.getElem?_append_left hj, Nat.mod_eq_of_lt hj]
    · have hj := Nat.le_of_not_lt hj
      rw [List.getElem?_append_right hj, repl_get n z _ (by rw [Nat.add_mul] at h; omega), ← Nat.mod_eq_sub_mod hj]
theorem repl_le {m : Nat} : ∀ (n : Nat) {z : List AV}, AVs.le m z → AVs.le m (repl n z)
  | 0, z, _ => trivial
  | n + 1, z, hz => by
    have ih := repl_le n hz
    rw [AVs.le_iff] at *
    intro v hv
    simp only [repl, List.mem_append] at hv
    rcases hv with x | x
    · exact hz v x
    · exact ih v x

/-- A row of n zero elements, as the model makes it. -/
theorem zero_row {z : AV} {es : Nat} (hl : z.cells.length = es) (n : Nat) :
    (Array.range (n * es)).map ((conc μ κ z).cells[· % (conc μ κ z).cells.size]!) = (concs μ κ (repl n z.cells)).toArray := by
  have hc : (conc μ κ z).cells = (concs μ κ z.cells).toArray := by apply Array.ext'; simp [cells_conc]
  apply Array.ext'
  apply List.ext_getElem?
  intro j
  subst hl
  by_cases hj : j < n * z.cells.length
  · have h0 : 0 < z.cells.length := by
      rcases Nat.eq_zero_or_pos z.cells.length with x | x
      · rw [x] at hj; simp at hj
      · exact x
    have hm := Nat.mod_lt j h0
    have e1 : z.cells[j % z.cells.length]? = some z.cells[j % z.cells.length] := List.getElem?_eq_getElem hm
    simp [hj, concs_get, repl_get n z.cells j hj, hc, concs_length, e1, getElem!_def]
  · have : (repl n z.cells).length ≤ j := by rw [repl_length]; omega
    simp [hj, concs_get, List.getElem?_eq_none this]

theorem st_buildSlice (hT : TbOk P Tb) {o : Oper} {t e : TypeId} {len : Nat} {ps : Array (Nat × Operand)} {vs : List (Nat × AV)} {cs : List AV} {i ei : TInfo} {z : AV} (ho : o.op = .buildSlice t len ps) (hi : Tb t = some i) (hk : i.uk = .slc e) (hei : Tb e = some ei)
    (hz : ei.zero = some z) (hzl : Nat.beq z.cells.length ei.size = true) (hs : Nat.ble (len * ei.size) 16777216 = true)
    (hp : evParts fr ps.toList = some vs) (hv : fillA (fun j => some (j * ei.size, ei.size)) (repl len z.cells) vs = some cs) : StepTo P G o fr h (.slc h.length 0 len (.exact len)) (h ++ [.cells cs e false true]) := by
  intro N μ κ a w hh hf
  have q := evParts_sound hf hp
  have hzl := Nat.eq_of_beq_eq_true hzl
  have hs := Nat.le_of_ble_eq_true hs
  obtain ⟨ti, d, ht⟩ := hT t i hi
  obtain ⟨_, de, hte⟩ := hT e ei hei
  have hu := ht.uk
  simp only [hk, ukRel] at hu
  subst hu
  have ez := hte.run_zero w hz μ κ
  have hzle : AVs.le h.length (repl len z.cells) := repl_le _ (cells_le (AV.le_mono (Nat.zero_le _) _ ez.2))
  have r := fillA_sound (μ := μ) (κ := κ) _ hv hzle q.2
  obtain ⟨r1, r2⟩ := hh.new e r.2.1
  refine ⟨_, _, _, ?_, r1, by simp [AV.le], r2⟩
  have e1 : (ps.map fun (i, x) => (i, a.eval x)) = (vs.map fun p => (p.1, conc μ κ p.2)).toArray := by
    apply Array.ext'; simp only [Array.toList_map]; exact q.1
  have key : (Instr.buildSlice t len (vs.map fun p => (p.1, conc μ κ p.2)).toArray).run P w = .ok (.slice (some ⟨w.heap.size, 0, none⟩) len len) { w with heap := w.heap.push (.cells (concs μ κ cs).toArray e) } := by
    simp only [Instr.buildSlice, Sem.run_bind, ht.run_underlying, hte.run_size, Result.andThen_ok]
    rw [if_neg (by omega)]
    by_cases h0 : len * ei.size = 0
    · have hcs0 : (concs μ κ (repl len z.cells)).toArray = #[] := by
        apply Array.ext'
        have : (repl len z.cells).length = 0 := by rw [repl_length, hzl, h0]
        simp [List.eq_nil_of_length_eq_zero this, concs]
      rw [hcs0] at r
      simp only [Sem.run_ite, h0, if_true, Sem.run_pure, Sem.run_bind, Result.andThen_ok, Array.range_zero', List.map_toArray, Array.map_empty, List.map_nil]
      rw [r.1]; rfl
    · simp only [Sem.run_ite, h0, if_false, Sem.run_pure, Sem.run_bind, Result.andThen_ok, ez.1, zero_row hzl len]
      rw [r.1]; rfl
  simp only [execOp, ho, Sem.run_bind]
  rw [e1, key]
  simp [conc, upd_same]

/-! Strings. -/
theorem st_index_str (hT : TbOk P Tb) {o : Oper} {t : TypeId} {x y : Operand} {i : TInfo} {s : List UInt8} {k : IntKind} {n : Int} (ho : o.op = .index t x y) (hi : Tb t = some i) (hk : i.uk = .str) (hx : ev fr x = some (.str s)) (hy : ev fr y = some (.int k n))
    (h0 : 0 ≤ n ∧ n < s.length) : StepTo P G o fr h (.int .u8 ((s.getD n.toNat 0).toNat : Int)) h := by
  intro N μ κ a w hh hf
  obtain ⟨ti, d, ht⟩ := hT t i hi
  have hu := ht.uk
  simp only [hk, ukRel] at hu
  subst hu
  have e1 := (ev_sound hf hx).1
  have e2 := (ev_sound hf hy).1
  have hn : n.toNat < s.length := by omega
  refine ⟨μ, κ, w, ?_, hh, trivial, Ext.refl _ _ _ _⟩
  have hb : (⟨s.toArray⟩ : ByteArray)[n.toNat]? = some s[n.toNat] := by
    rw [ByteArray.getElem?_lt' _ _ (by simpa [ByteArray.size] using hn)]; rfl
  have key : (Instr.index t (.string ⟨s.toArray⟩) (.int k n)).run P w = .ok (.int .u8 s[n.toNat].toNat) w := by
    simp only [Instr.index, asIntOf, Sem.run_bind, Sem.run_pure, Result.andThen_ok, ht.run_underlying, h0.1, if_true, hb]
  simp only [execOp, ho, e1, e2, conc, Sem.run_bind, key]
  simp [hn]

theorem st_concat {o : Oper} {t u : TypeId} {x y : Operand} {s r : List UInt8} (ho : o.op = .binOp .add t x y u) (hx : ev fr x = some (.str s)) (hy : ev fr y = some (.str r)) (hl : s.length + r.length ≤ 9223372036854775807) : StepTo P G o fr h (.str (s ++ r)) h := by
  intro N μ κ a w hh hf
  have e1 := (ev_sound hf hx).1
  have e2 := (ev_sound hf hy).1
  refine ⟨μ, κ, w, ?_, hh, trivial, Ext.refl _ _ _ _⟩
  have hl' : ¬ (((s.length + r.length : Nat) : Int) > IntKind.i64.max) := by rw [IntKind.max_i64]; omega
  have key : (Op.stringOp .add ⟨s.toArray⟩ ⟨r.toArray⟩).run P w = .ok (.string ⟨(s ++ r).toArray⟩) w := by
    simp only [Op.stringOp, ByteArray.size, List.size_toArray]
    rw [if_neg hl']
    simp only [Sem.run_pure]
    congr 2
  simp only [execOp, ho, e1, e2, conc, eqGuard_add, Sem.run_bind, Sem.run_pure, Result.andThen_ok, binOp_string_add, key]
end
end Go.Fm
