/- FM, a program logic over the given model with abstract values and an abstract heap: general lemmas. No statement is closed in this text. -/
import Derived.Test.YtcimapbdkmdcpaaGreatDoorFmH
set_option linter.unusedVariables false
set_option linter.unusedSimpArgs false
namespace Go.Fm
open Go

/-- The place of such a slice is known. -/
def okc : ACap → Nat → Bool
  | .exact _, _ => true
  | .opn 0 0, 0 => true
  | _, _ => false

theorem conc_okc {μ κ : Nat → Nat} {id off len : Nat} {cap : ACap} (h : okc cap off = true) : ∃ c, conc μ κ (.slc id off len cap) = .slice (some ⟨μ id, off, none⟩) len c := by
  unfold okc at h
  split at h
  · exact ⟨_, rfl⟩
  · exact ⟨_, by simp only [conc, ite_self]; rfl⟩
  · simp at h

def boundOf (fr : Frame) (o : Option Operand) (d : Nat) : Option Int :=
  match o with
  | none => some (d : Int)
  | some x => match ev fr x with
    | some (.int _ n) => some n
    | _ => none

def hmOk : Option Operand → Option Operand → Bool
  | none, some _ => false
  | _, _ => true

def byteAV (b : UInt8) : AV := .int .u8 (b.toNat : Int)

section
variable {P : Program} {Tb : TypeId → Option TInfo} {G : Nat → Nat → Option AV} {μ κ : Nat → Nat} {h : Heap} {N : Nat} {fr : Frame} {a : Act} {w : World}

theorem st_ixa_slc (hT : TbOk P Tb) {o : Oper} {t e : TypeId} {x y : Operand} {i ei : TInfo} {id off len : Nat} {cap : ACap} {k : IntKind} {n : Int} (ho : o.op = .indexAddr t x y) (hi : Tb t = some i) (hk : i.uk = .slc e) (hei : Tb e = some ei)
    (hx : ev fr x = some (.slc id off len cap)) (hy : ev fr y = some (.int k n)) (hc : okc cap off = true) (h0 : 0 ≤ n ∧ n < len) : StepTo P G o fr h (.ptr id (off + n.toNat * ei.size)) h := by
  intro N μ κ a w hh hf
  obtain ⟨ti, d, ht⟩ := hT t i hi
  obtain ⟨_, de, hte⟩ := hT e ei hei
  have hu := ht.uk
  simp only [hk, ukRel] at hu
  subst hu
  have e1 := ev_sound hf hx
  have e2 := (ev_sound hf hy).1
  obtain ⟨c, hcc⟩ := conc_okc (μ := μ) (κ := κ) (id := id) (len := len) hc
  refine ⟨μ, κ, w, ?_, hh, e1.2, Ext.refl _ _ _ _⟩
  have key : (Instr.indexAt t (.slice (some ⟨μ id, off, none⟩) len c) (.int k n)).run P w = .ok (.pointer (some ⟨μ id, off + n.toNat * ei.size, none⟩)) w := by
    have hn : (0 ≤ n ∧ n < (len : Int)) := ⟨h0.1, by omega⟩
    simp only [Instr.indexAt, asIntOf, Sem.run_bind, Sem.run_pure, Result.andThen_ok, ht.run_underlying, hn, and_self, if_true, hte.run_size, Addr.add_lit]
  simp only [execOp, ho, e1.1, e2, hcc, Sem.run_bind]
  rw [show conc μ κ (.int k n) = .int k n from rfl, key]; rfl

theorem st_ixa_gslc (hT : TbOk P Tb) {o : Oper} {t e : TypeId} {x y : Operand} {i ei : TInfo} {g off len cap : Nat} {k : IntKind} {n : Int} (ho : o.op = .indexAddr t x y) (hi : Tb t = some i) (hk : i.uk = .slc e) (hei : Tb e = some ei)
    (hx : ev fr x = some (.gslc g off len cap)) (hy : ev fr y = some (.int k n)) (h0 : 0 ≤ n ∧ n < len) : StepTo P G o fr h (.gptr g (off + n.toNat * ei.size)) h := by
  intro N μ κ a w hh hf
  obtain ⟨ti, d, ht⟩ := hT t i hi
  obtain ⟨_, de, hte⟩ := hT e ei hei
  have hu := ht.uk
  simp only [hk, ukRel] at hu
  subst hu
  have e1 := ev_sound hf hx
  have e2 := (ev_sound hf hy).1
  refine ⟨μ, κ, w, ?_, hh, trivial, Ext.refl _ _ _ _⟩
  have key : (Instr.indexAt t (.slice (some ⟨g, off, none⟩) len cap) (.int k n)).run P w = .ok (.pointer (some ⟨g, off + n.toNat * ei.size, none⟩)) w := by
    have hn : (0 ≤ n ∧ n < (len : Int)) := ⟨h0.1, by omega⟩
    simp only [Instr.indexAt, asIntOf, Sem.run_bind, Sem.run_pure, Result.andThen_ok, ht.run_underlying, hn, and_self, if_true, hte.run_size, Addr.add_lit]
  simp only [execOp, ho, e1.1, e2, Sem.run_bind]
  rw [show conc μ κ (.int k n) = .int k n from rfl, show conc μ κ (.gslc g off len cap) = .slice (some ⟨g, off, none⟩) len cap from rfl, key]; rfl

theorem st_ixa_arr (hT : TbOk P Tb) {o : Oper} {t e : TypeId} {x y : Operand} {i ei : TInfo} {id off m : Nat} {k : IntKind} {n : Int} (ho : o.op = .indexAddr t x y) (hi : Tb t = some i) (hk : i.uk = .arr m e) (hei : Tb e = some ei)
    (hx : ev fr x = some (.ptr id off)) (hy : ev fr y = some (.int k n)) (h0 : 0 ≤ n ∧ n < m) (hm : 2 ≤ m) : StepTo P G o fr h (.ptr id (off + n.toNat * ei.size)) h := by
  intro N μ κ a w hh hf
  obtain ⟨ti, d, ht⟩ := hT t i hi
  obtain ⟨_, de, hte⟩ := hT e ei hei
  have hu := ht.uk
  simp only [hk, ukRel] at hu
  subst hu
  have e1 := ev_sound hf hx
  have e2 := (ev_sound hf hy).1
  refine ⟨μ, κ, w, ?_, hh, e1.2, Ext.refl _ _ _ _⟩
  have key : (Instr.indexAt t (.pointer (some ⟨μ id, off, none⟩)) (.int k n)).run P w = .ok (.pointer (some ⟨μ id, off + n.toNat * ei.size, none⟩)) w := by
    have hn : (0 ≤ n ∧ n < (m : Int)) := ⟨h0.1, by omega⟩
    simp only [Instr.indexAt, asIntOf, Sem.run_bind, Sem.run_pure, Result.andThen_ok, ht.run_underlying, Instr.sureAddr, hn, and_self, if_true, hte.run_size, Addr.add_lit]
  simp only [execOp, ho, e1.1, e2, Sem.run_bind]
  rw [show conc μ κ (.int k n) = .int k n from rfl, show conc μ κ (.ptr id off) = .pointer (some ⟨μ id, off, none⟩) from rfl, key]; rfl

theorem st_ixa_glob (hT : TbOk P Tb) {o : Oper} {t e : TypeId} {x y : Operand} {i ei : TInfo} {g off m : Nat} {k : IntKind} {n : Int} (ho : o.op = .indexAddr t x y) (hi : Tb t = some i) (hk : i.uk = .arr m e) (hei : Tb e = some ei)
    (hx : ev fr x = some (.gptr g off)) (hy : ev fr y = some (.int k n)) (h0 : 0 ≤ n ∧ n < m) (hm : 2 ≤ m) : StepTo P G o fr h (.gptr g (off + n.toNat * ei.size)) h := by
  intro N μ κ a w hh hf
  obtain ⟨ti, d, ht⟩ := hT t i hi
  obtain ⟨_, de, hte⟩ := hT e ei hei
  have hu := ht.uk
  simp only [hk, ukRel] at hu
  subst hu
  have e1 := ev_sound hf hx
  have e2 := (ev_sound hf hy).1
  refine ⟨μ, κ, w, ?_, hh, e1.2, Ext.refl _ _ _ _⟩
  have key : (Instr.indexAt t (.pointer (some ⟨g, off, none⟩)) (.int k n)).run P w = .ok (.pointer (some ⟨g, off + n.toNat * ei.size, none⟩)) w := by
    have hn : (0 ≤ n ∧ n < (m : Int)) := ⟨h0.1, by omega⟩
    simp only [Instr.indexAt, asIntOf, Sem.run_bind, Sem.run_pure, Result.andThen_ok, ht.run_underlying, Instr.sureAddr, hn, and_self, if_true, hte.run_size, Addr.add_lit]
  simp only [execOp, ho, e1.1, e2, Sem.run_bind]
  rw [show conc μ κ (.int k n) = .int k n from rfl, show conc μ κ (.gptr g off) = .pointer (some ⟨g, off, none⟩) from rfl, key]; rfl

/-- An element of an array that is a value. -/
theorem st_index_arr (hT : TbOk P Tb) {o : Oper} {t e : TypeId} {x y : Operand} {i ei : TInfo} {cs : List AV} {m : Nat} {k : IntKind} {n : Int} {v : AV} (ho : o.op = .index t x y) (hi : Tb t = some i) (hk : i.uk = .arr m e) (hei : Tb e = some ei)
    (hx : ev fr x = some (.agg cs)) (hy : ev fr y = some (.int k n)) (h0 : 0 ≤ n ∧ n < m) (hv : loadAV ei cs (n.toNat * ei.size) = some v) : StepTo P G o fr h v h := by
  intro N μ κ a w hh hf
  obtain ⟨ti, d, ht⟩ := hT t i hi
  obtain ⟨_, de, hte⟩ := hT e ei hei
  have hu := ht.uk
  simp only [hk, ukRel] at hu
  subst hu
  have e1 := ev_sound hf hx
  have e2 := (ev_sound hf hy).1
  have hp := part_sound (P := P) (w := w) (μ := μ) (κ := κ) hte hv h.length e1.2
  refine ⟨μ, κ, w, ?_, hh, hp.2, Ext.refl _ _ _ _⟩
  have key : (Instr.index t (.agg (concs μ κ cs).toArray) (.int k n)).run P w = .ok (conc μ κ v) w := by
    have hn : (0 ≤ n ∧ n < (m : Int)) := ⟨h0.1, by omega⟩
    simp only [Instr.index, asIntOf, Sem.run_bind, Sem.run_pure, Result.andThen_ok, ht.run_underlying, hn, and_self, if_true, hte.run_size, hp.1]
  simp only [execOp, ho, e1.1, e2, Sem.run_bind]
  rw [show conc μ κ (.int k n) = .int k n from rfl, show conc μ κ (.agg cs) = .agg (concs μ κ cs).toArray from rfl, key]; rfl

/-! Slices of strings and slices. -/
theorem bound_run {x : Operand} {d y : Nat} {n : Int} (hf : FRel N μ κ fr h.length a) (hb : boundOf fr (some x) d = some n) (h0 : 0 ≤ n ∧ n ≤ y) (code : BoundsCode) :
    (Instr.sliceBound (a.eval x) y code).run P w = .ok n.toNat w := by
  simp only [boundOf] at hb
  split at hb
  · rename_i k m hx
    simp at hb; subst hb
    have e := (ev_sound hf hx).1
    simp only [e, conc, Instr.sliceBound, asIntOf, Sem.run_bind, Sem.run_pure, Result.andThen_ok]
    rw [if_pos ⟨h0.1, h0.2⟩]; rfl
  · simp at hb

theorem bounds_run (isS : Bool) {lo hi mx : Option Operand} {len cap : Nat} {l u m : Int} (hf : FRel N μ κ fr h.length a) (hl : boundOf fr lo 0 = some l) (hu : boundOf fr hi len = some u) (hm : boundOf fr mx cap = some m)
    (h1 : 0 ≤ l) (h2 : l ≤ u) (h3 : u ≤ m) (h4 : m ≤ cap) (hx : hi = none → mx = none) :
    (Instr.sliceBounds isS len cap (lo.map a.eval) (hi.map a.eval) (mx.map a.eval)).run P w = .ok (l.toNat, u.toNat, m.toNat) w := by
  cases mx with
  | none =>
    have em : m = cap := by simp [boundOf] at hm; omega
    cases hi with
    | none =>
      have eu : u = len := by simp [boundOf] at hu; omega
      cases lo with
      | none =>
        have el : l = 0 := by simp [boundOf] at hl; omega
        subst em eu el
        simp [Instr.sliceBounds]
      | some x =>
        have rl := bound_run (P := P) (w := w) (y := len) hf hl ⟨h1, by omega⟩
        subst em eu
        simp [Instr.sliceBounds, rl]
    | some y =>
      have ru := bound_run (P := P) (w := w) (y := cap) hf hu ⟨by omega, by omega⟩
      cases lo with
      | none =>
        have el : l = 0 := by simp [boundOf] at hl; omega
        subst em el
        simp [Instr.sliceBounds, ru]
      | some x =>
        have rl := bound_run (P := P) (w := w) (y := u.toNat) hf hl ⟨h1, by omega⟩
        subst em
        simp [Instr.sliceBounds, ru, rl]
  | some z =>
    have rm := bound_run (P := P) (w := w) (y := cap) hf hm ⟨by omega, by omega⟩
    cases hi with
    | none => simp at hx
    | some y =>
      have ru := bound_run (P := P) (w := w) (y := m.toNat) hf hu ⟨by omega, by omega⟩
      cases lo with
      | none =>
        have el : l = 0 := by simp [boundOf] at hl; omega
        subst el
        simp [Instr.sliceBounds, rm, ru]
      | some x =>
        have rl := bound_run (P := P) (w := w) (y := u.toNat) hf hl ⟨h1, by omega⟩
        simp [Instr.sliceBounds, rm, ru, rl]

theorem st_slice_str (hT : TbOk P Tb) {o : Oper} {t : TypeId} {x : Operand} {lo hi : Option Operand} {i : TInfo} {s : List UInt8} {l u : Int} (ho : o.op = .slice t x lo hi none) (hti : Tb t = some i) (hk : i.uk = .str) (hx : ev fr x = some (.str s))
    (hl : boundOf fr lo 0 = some l) (hu : boundOf fr hi s.length = some u) (hb : 0 ≤ l ∧ l ≤ u ∧ u ≤ s.length) : StepTo P G o fr h (.str ((s.take u.toNat).drop l.toNat)) h := by
  intro N μ κ a w hh hf
  obtain ⟨ti, d, ht⟩ := hT t i hti
  have huk := ht.uk
  simp only [hk, ukRel] at huk
  subst huk
  have e1 := (ev_sound hf hx).1
  refine ⟨μ, κ, w, ?_, hh, trivial, Ext.refl _ _ _ _⟩
  have hm : boundOf fr (none : Option Operand) s.length = some (s.length : Int) := rfl
  have br := bounds_run (P := P) (w := w) false hf hl hu hm hb.1 hb.2.1 hb.2.2 (Int.le_refl _) (fun _ => rfl)
  have key : (Instr.sliceAt t (.string ⟨s.toArray⟩) (lo.map a.eval) (hi.map a.eval) none).run P w = .ok (.string ⟨((s.take u.toNat).drop l.toNat).toArray⟩) w := by
    have sz : (⟨s.toArray⟩ : ByteArray).size = s.length := by simp [ByteArray.size]
    have br' : (Instr.sliceBounds false s.length s.length (lo.map a.eval) (hi.map a.eval) none).run P w = .ok (l.toNat, u.toNat, s.length) w := by simpa using br
    simp only [Instr.sliceAt, Sem.run_bind, ht.run_underlying, Result.andThen_ok, Instr.slice, Option.isSome_none, Bool.false_eq_true, if_false, Sem.run_pure, sz, br']
    congr 2
    apply ByteArray.ext
    simp only [ByteArray.data_extract]
    apply Array.ext'
    simp only [Array.toList_extract, List.extract_eq_take_drop, List.drop_take]
  simp only [execOp, ho, e1, Sem.run_bind, conc, Option.map_none]
  rw [key]; rfl

/-- A slice of a slice whose capacity is known. -/
theorem st_slice_slc (hT : TbOk P Tb) {o : Oper} {t e : TypeId} {x : Operand} {lo hi mx : Option Operand} {i ei : TInfo} {id off off' len c : Nat} {l u m : Int} (ho : o.op = .slice t x lo hi mx) (hti : Tb t = some i) (hk : i.uk = .slc e) (hei : Tb e = some ei)
    (hx : ev fr x = some (.slc id off len (.exact c))) (hl : boundOf fr lo 0 = some l) (hu : boundOf fr hi len = some u) (hm : boundOf fr mx c = some m) (hxx : hmOk hi mx = true) (hb : 0 ≤ l ∧ l ≤ u ∧ u ≤ m ∧ m ≤ c)
    (hoff : (l = m ∧ off' = off) ∨ (l < m ∧ off' = off + l.toNat * ei.size)) : StepTo P G o fr h (.slc id off' (u.toNat - l.toNat) (.exact (m.toNat - l.toNat))) h := by
  intro N μ κ a w hh hf
  obtain ⟨ti, d, ht⟩ := hT t i hti
  obtain ⟨_, de, hte⟩ := hT e ei hei
  have huk := ht.uk
  simp only [hk, ukRel] at huk
  subst huk
  have e1 := ev_sound hf hx
  refine ⟨μ, κ, w, ?_, hh, e1.2, Ext.refl _ _ _ _⟩
  have br := bounds_run (P := P) (w := w) true hf hl hu hm hb.1 hb.2.1 hb.2.2.1 hb.2.2.2 (by
    intro e2; subst e2; cases mx with
    | none => rfl
    | some y => simp [hmOk] at hxx)
  have key : (Instr.sliceAt t (.slice (some ⟨μ id, off, none⟩) len c) (lo.map a.eval) (hi.map a.eval) (mx.map a.eval)).run P w = .ok (.slice (some ⟨μ id, off', none⟩) (u.toNat - l.toNat) (m.toNat - l.toNat)) w := by
    simp only [Instr.sliceAt, Sem.run_bind, ht.run_underlying, Result.andThen_ok, Instr.slice, br, hte.run_size, Sem.run_pure]
    rcases hoff with ⟨q1, rfl⟩ | ⟨q1, rfl⟩
    · rw [if_pos (by omega)]
    · rw [if_neg (by omega)]; simp [Addr.add_lit]
  simp only [execOp, ho, e1.1, Sem.run_bind, conc]
  rw [key]; rfl

theorem st_slice_gslc (hT : TbOk P Tb) {o : Oper} {t e : TypeId} {x : Operand} {lo hi mx : Option Operand} {i ei : TInfo} {g off off' len c : Nat} {l u m : Int} (ho : o.op = .slice t x lo hi mx) (hti : Tb t = some i) (hk : i.uk = .slc e) (hei : Tb e = some ei)
    (hx : ev fr x = some (.gslc g off len c)) (hl : boundOf fr lo 0 = some l) (hu : boundOf fr hi len = some u) (hm : boundOf fr mx c = some m) (hxx : hmOk hi mx = true) (hb : 0 ≤ l ∧ l ≤ u ∧ u ≤ m ∧ m ≤ c)
    (hoff : (l = m ∧ off' = off) ∨ (l < m ∧ off' = off + l.toNat * ei.size)) : StepTo P G o fr h (.gslc g off' (u.toNat - l.toNat) (m.toNat - l.toNat)) h := by
  intro N μ κ a w hh hf
  obtain ⟨ti, d, ht⟩ := hT t i hti
  obtain ⟨_, de, hte⟩ := hT e ei hei
  have huk := ht.uk
  simp only [hk, ukRel] at huk
  subst huk
  have e1 := ev_sound hf hx
  refine ⟨μ, κ, w, ?_, hh, trivial, Ext.refl _ _ _ _⟩
  have br := bounds_run (P := P) (w := w) true hf hl hu hm hb.1 hb.2.1 hb.2.2.1 hb.2.2.2 (by
    intro e2; subst e2; cases mx with
    | none => rfl
    | some y => simp [hmOk] at hxx)
  have key : (Instr.sliceAt t (.slice (some ⟨g, off, none⟩) len c) (lo.map a.eval) (hi.map a.eval) (mx.map a.eval)).run P w = .ok (.slice (some ⟨g, off', none⟩) (u.toNat - l.toNat) (m.toNat - l.toNat)) w := by
    simp only [Instr.sliceAt, Sem.run_bind, ht.run_underlying, Result.andThen_ok, Instr.slice, br, hte.run_size, Sem.run_pure]
    rcases hoff with ⟨q1, rfl⟩ | ⟨q1, rfl⟩
    · rw [if_pos (by omega)]
    · rw [if_neg (by omega)]; simp [Addr.add_lit]
  simp only [execOp, ho, e1.1, Sem.run_bind, conc]
  rw [key]; rfl

/-- The whole of a nil slice, or nothing of it. -/
theorem st_slice_nil (hT : TbOk P Tb) {o : Oper} {t e : TypeId} {x : Operand} {lo hi mx : Option Operand} {i ei : TInfo} {l u m : Int} (ho : o.op = .slice t x lo hi mx) (hti : Tb t = some i) (hk : i.uk = .slc e) (hei : Tb e = some ei)
    (hx : ev fr x = some .nils) (hl : boundOf fr lo 0 = some l) (hu : boundOf fr hi 0 = some u) (hm : boundOf fr mx 0 = some m) (hxx : hmOk hi mx = true) (hb : 0 ≤ l ∧ l ≤ u ∧ u ≤ m ∧ m ≤ 0) : StepTo P G o fr h .nils h := by
  intro N μ κ a w hh hf
  obtain ⟨ti, d, ht⟩ := hT t i hti
  obtain ⟨_, de, hte⟩ := hT e ei hei
  have huk := ht.uk
  simp only [hk, ukRel] at huk
  subst huk
  have e1 := ev_sound hf hx
  refine ⟨μ, κ, w, ?_, hh, e1.2, Ext.refl _ _ _ _⟩
  have br := bounds_run (P := P) (w := w) true (cap := 0) hf hl hu hm hb.1 hb.2.1 hb.2.2.1 (by omega) (by
    intro e2; subst e2; cases mx with
    | none => rfl
    | some y => simp [hmOk] at hxx)
  have key : (Instr.sliceAt t (.slice none 0 0) (lo.map a.eval) (hi.map a.eval) (mx.map a.eval)).run P w = .ok (.slice none 0 0) w := by
    simp only [Instr.sliceAt, Sem.run_bind, ht.run_underlying, Result.andThen_ok, Instr.slice, br, hte.run_size, Sem.run_pure, Option.map_none, ite_self]
    rw [show u.toNat - l.toNat = 0 by omega, show m.toNat - l.toNat = 0 by omega]
  simp only [execOp, ho, e1.1, Sem.run_bind, conc]
  rw [key]; rfl

/-- A slice of an array behind a pointer. -/
theorem st_slice_arr (hT : TbOk P Tb) {o : Oper} {t e : TypeId} {x : Operand} {lo hi mx : Option Operand} {i ei : TInfo} {id off off' c : Nat} {l u m : Int} (ho : o.op = .slice t x lo hi mx) (hti : Tb t = some i) (hk : i.uk = .arr c e) (hei : Tb e = some ei)
    (hx : ev fr x = some (.ptr id off)) (hl : boundOf fr lo 0 = some l) (hu : boundOf fr hi c = some u) (hm : boundOf fr mx c = some m) (hxx : hmOk hi mx = true) (hb : 0 ≤ l ∧ l ≤ u ∧ u ≤ m ∧ m ≤ c)
    (hoff : (l = m ∧ off' = off) ∨ (l < m ∧ off' = off + l.toNat * ei.size)) : StepTo P G o fr h (.slc id off' (u.toNat - l.toNat) (.exact (m.toNat - l.toNat))) h := by
  intro N μ κ a w hh hf
  obtain ⟨ti, d, ht⟩ := hT t i hti
  obtain ⟨_, de, hte⟩ := hT e ei hei
  have huk := ht.uk
  simp only [hk, ukRel] at huk
  subst huk
  have e1 := ev_sound hf hx
  refine ⟨μ, κ, w, ?_, hh, e1.2, Ext.refl _ _ _ _⟩
  have br := bounds_run (P := P) (w := w) false hf hl hu hm hb.1 hb.2.1 hb.2.2.1 hb.2.2.2 (by
    intro e2; subst e2; cases mx with
    | none => rfl
    | some y => simp [hmOk] at hxx)
  have key : (Instr.sliceAt t (.pointer (some ⟨μ id, off, none⟩)) (lo.map a.eval) (hi.map a.eval) (mx.map a.eval)).run P w = .ok (.slice (some ⟨μ id, off', none⟩) (u.toNat - l.toNat) (m.toNat - l.toNat)) w := by
    simp only [Instr.sliceAt, Sem.run_bind, ht.run_underlying, Result.andThen_ok, Instr.sureAddr, br, hte.run_size, Sem.run_pure]
    rcases hoff with ⟨q1, rfl⟩ | ⟨q1, rfl⟩
    · rw [if_pos (by omega)]
    · rw [if_neg (by omega)]; simp [Addr.add_lit]
  simp only [execOp, ho, e1.1, Sem.run_bind, conc]
  rw [key]; rfl
end
end Go.Fm
