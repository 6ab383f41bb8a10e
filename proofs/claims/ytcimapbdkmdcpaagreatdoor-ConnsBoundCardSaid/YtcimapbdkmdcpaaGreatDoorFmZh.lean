/- A part of the proofs over this seat: what functions of the program compute, shown once each. No statement of the seat is closed in this text. -/
import Derived.Test.YtcimapbdkmdcpaaGreatDoorFmZg
import Derived.ProofKit
import Derived.OpenShut
import Derived.ChangeSlices
import Derived.ChangeStays
import Derived.ChangeSame
import Derived.RowKit
set_option linter.all false
set_option linter.unusedVariables false
set_option linter.unusedSimpArgs false
namespace Go.Fm
open Go Go.ChangeShapes Go.WideShapes

/-! The bridge to the statements: the memory that a call finds, as a table that is only read; slices that come in; what a law leaves behind. -/
def rawAV : Value → Option AV
  | .bool b => some (.bool b)
  | .int k n => some (.int k n)
  | .string s => some (.str s.data.toList)
  | .pointer none => some .nilp
  | .pointer (some ⟨g, off, none⟩) => some (.gptr g off)
  | .slice none 0 0 => some .nils
  | .slice (some ⟨g, off, none⟩) len cap => some (.gslc g off len cap)
  | .map none => some .nilm
  | .nilFunc => some .nilf
  | .nilIface => some .nili
  | _ => none
theorem rawAV_sound {v : Value} {a : AV} (h : rawAV v = some a) (μ κ : Nat → Nat) : conc μ κ a = v ∧ a.le 0 := by
  unfold rawAV at h
  split at h <;> simp at h <;> subst h <;> simp [conc, AV.le]
def worldG (w : World) (g j : Nat) : Option AV := (w.cell? ⟨g, j, none⟩).bind rawAV
theorem worldG_of {w : World} {g j : Nat} {v : Value} {a : AV} (h : w.cell? ⟨g, j, none⟩ = some v) (ha : rawAV v = some a) : worldG w g j = some a := by
  simp only [worldG, h, Option.bind_some, ha]
/-- Every world, before the call has made anything. -/
theorem HRel.start (P : Program) (w : World) (μ κ : Nat → Nat) : HRel P (worldG w) μ κ [] w where
  obj id o h := by simp at h
  sep i j oi oj h := by simp at h
  le i o h := by simp at h
  glob g j v h := by
    simp only [worldG, Option.bind_eq_some_iff] at h
    obtain ⟨x, hx, hv⟩ := h
    obtain ⟨e1, e2⟩ := rawAV_sound hv μ κ
    exact ⟨by rw [hx, e1], e2⟩
  apart i o g j v h := by simp at h

section
variable {H : Type} {enc : TypeId × Value → H} {P : Program} {W : World} {base b0 : Nat} {sp : Nat → Bool} {held : Bool}
/-- A slice of bytes that comes in. -/
theorem in_bytes {t e : TypeId} {v : Value} {d : DataW H} {p : List MemPlace} (ht : P.underlying t = some (.slice e)) (he : P.underlying e = some (.int .u8)) (hc : P.cellsOf e = 1)
    (hv : Value.okWide P W .any base t v) (hd : DataW.Trod enc P W b0 sp held t v d p) : ∃ (l : List UInt8) (av : AV), InSl u8E (worldG W) l av ∧ ∀ μ κ, conc μ κ av = v := by
  obtain ⟨fuel, h⟩ := hd
  obtain ⟨a0, len0, cap0, rfl⟩ := okWide_slice ht hv
  rcases _root_.Go.ChangeShapes.open_ints (k := .u8) ht he hc h with ⟨e1, _⟩ | ⟨a, len, cap, zs, e1, _, hle, _, hz, _, hcell, hwf⟩
  · simp only [Value.cells, List.cons.injEq, and_true] at e1
    exact ⟨[], .nils, .nil, fun μ κ => by rw [e1]; rfl⟩
  · simp only [Value.cells, List.cons.injEq, and_true] at e1
    rw [e1] at hv ⊢
    have hs : a.spot = none := by
      simp only [Value.okWide, ht, Cell.okWide, Cell.ok, World.has] at hv
      exact hv.2.2.2.1
    obtain ⟨g, off, spot⟩ := a
    dsimp only at hs
    subst hs
    have hzl : len ≤ zs.length := by split at hz <;> omega
    refine ⟨(zs.take len).map (fun n => UInt8.ofNat n.toNat), .gslc g off len cap, ?_, fun μ κ => rfl⟩
    have hlen : ((zs.take len).map (fun n => UInt8.ofNat n.toNat)).length = len := by simp; omega
    have := InSl.at (E := u8E) (G := worldG W) g off cap ((zs.take len).map (fun n => UInt8.ofNat n.toNat)) ?_ (by omega)
    · rw [hlen] at this; exact this
    · intro i x hi j y hj
      have hj0 : j = 0 := by
        have := lt_of_get hj
        rw [u8E.len] at this; omega
      subst hj0
      have hil : i < len := by have := lt_of_get hi; omega
      rw [List.getElem?_map, List.getElem?_take, if_pos hil] at hi
      have hizs : i < zs.length := by omega
      rw [List.getElem?_eq_getElem hizs] at hi
      simp only [Option.map_some, Option.some.injEq] at hi
      subst hi
      have hc1 := hcell i hizs
      have hw := hwf zs[i] (List.getElem_mem hizs)
      have hr : 0 ≤ zs[i] ∧ zs[i] ≤ 255 := by simpa [Lit.wf, IntKind.min, IntKind.max, IntKind.signed, IntKind.bits] using hw
      simp only [u8E, List.getElem?_cons_zero, Option.some.injEq] at hj
      subst hj
      refine worldG_of (v := .int .u8 zs[i]) ?_ ?_
      · rw [show zs.getD i 0 = zs[i] by simp [List.getD, hizs]] at hc1
        rw [show (⟨g, off, none⟩ : Addr).add i = ⟨g, off + i, none⟩ by unfold Addr.add; split <;> simp_all] at hc1
        simpa [Nat.mul_one] using hc1
      · simp only [rawAV, Option.some.injEq, AV.int.injEq, true_and]
        rw [UInt8.toNat_ofNat']
        omega

/-- Each slice's elements take cells. -/
def slcB (P : Program) : Bool := (List.range P.types.size).all fun t => match P.underlying t with
  | some (.slice e) => Nat.blt 0 (P.cellsOf e)
  | _ => true
theorem slcB_ok (h : slcB P = true) {t e : TypeId} (ht : t < P.types.size) (hu : P.underlying t = some (.slice e)) : 0 < P.cellsOf e := by
  have := List.all_eq_true.1 h t (List.mem_range.2 ht)
  rw [hu] at this
  simpa [Nat.blt_eq] using this
/-- What is read before, reads after a call that left all old memory alone. -/
theorem trod_all_keeps (hl : laidOutB P = true) (hm : mapsRowed P = true) (hsz : slcB P = true) {W' : World} (hkeep : ∀ b, b < W.heap.size → W'.heap[b]? = W.heap[b]?) {sp' : Nat → Bool} :
    ∀ {ts : List TypeId} {vs : List Value} {ds : List (DataW H)} {p : List MemPlace}, (∀ t ∈ ts, t < P.types.size) → (∀ q ∈ p, sp' q.block = true) →
      DataW.TrodAll enc P W base (fun _ => true) true ts vs ds p → DataW.TrodAll enc P W' base sp' true ts vs ds p
  | [], vs, ds, p, _, _, h => by
    obtain ⟨rfl, rfl, rfl⟩ := trodAll_nil h
    rfl
  | t :: ts, vs, ds, p, hts, hsp, h => by
    have hlt := DataW.TrodAll.lt h
    obtain ⟨v, vs', d, ds', a, b, rfl, rfl, rfl, ⟨n, h1⟩, h2⟩ := trodAll_cons h
    refine ⟨a, b, ⟨n, DataW.trod_stays (T := (· < P.types.size)) (kids_rows hl hm) (fun ht hu => slcB_ok hsz ht hu) (fun hh => by cases hh) (hts t (by simp)) h1 ?_ (fun q hq => hsp q (by simp [hq]))⟩,
      trod_all_keeps hl hm hsz hkeep (fun u hu => hts u (by simp [hu])) (fun q hq => hsp q (by simp [hq])) h2, rfl⟩
    intro q hq
    have := hlt q (by simp [hq])
    cases q with
    | cell b off => exact cell_congr (hkeep _ this)
    | map b => exact hkeep _ this

/-- A law: it answered true, and all old memory is as it was. -/
theorem law_post {f : Func} {s : ChangeSpec} {apart fresh handsOn again : Bool} {W' : World} {args : Array Value} {ds gs : List (DataW H)} {before : List MemPlace} {t : TypeId}
    (hl : laidOutB P = true) (hm : mapsRowed P = true) (hsz : slcB P = true) (hts : ∀ t ∈ f.params.toList, t < P.types.size) (hr : f.resultTypes = #[t]) (hb : P.underlying t = some .bool)
    (hW : DataW.Whole enc P f.params.toList s.vars apart W args.toList ds gs before) (hv : s.vars = []) (hfn : s.fn H (ds ++ gs) = { results := [.lit (.bool true)], args := ds })
    (hos : W'.os = W.os) (hout : W'.output = W.output) (hkeep : ∀ b, b < W.heap.size → W'.heap[b]? = W.heap[b]?) :
    s.post enc P f apart fresh handsOn again W args (.bool true) W' := by
  have hlt := hW.lt
  have hW0 := hW
  obtain ⟨p, q, hA, hV, rfl, hfz, hnd⟩ := hW
  rw [hv] at hV
  obtain ⟨rfl, rfl⟩ := trodVars_none hV
  simp only [List.append_nil] at hlt hfz hnd hfn hW0
  have hres : ∀ (b : Nat) (sp : Nat → Bool) (hd : Bool), DataW.TrodAll enc P W' b sp hd f.resultTypes.toList ((Value.bool true).resultList f.resultTypes.size) [(.lit (.bool true) : DataW H)] [] := by
    intro b sp hd
    rw [hr]
    exact trodAll_mk1 (RowKit.shut_bool hb true)
  have hargs : ∀ sp' : Nat → Bool, (∀ x ∈ p, sp' x.block = true) → DataW.TrodAll enc P W' 0 sp' true f.params.toList args.toList ds p := fun sp' h => trod_all_keeps hl hm hsz hkeep hts h hA
  have hfz' : W'.noneFrozen p := by
    intro b off hp
    rw [← hfz b off hp]
    simp only [World.frozen?, hkeep b (hlt _ hp)]
  refine ⟨ds, [], p, [], p, [], hW0, ?_, ?_, ?_, ?_, ?_⟩
  · rw [List.append_nil, hfn]; exact hres _ _ _
  · rw [List.append_nil, hfn]; exact hargs _ (fun x hx => by simpa using hlt x hx)
  · rw [List.append_nil, hfn, hv]; rfl
  · refine ⟨hos, hout, fun i hi => ?_⟩
    rw [hkeep i hi]
    split <;> simp_all
  · intro _
    refine ⟨RowKit.ok_one hr rfl (RowKit.okWide_bool_mk hb true), [.lit (.bool true)] ++ ds, [], ([] ++ p) ++ [], ⟨[] ++ p, [], ?_, ?_, rfl, ?_, ?_⟩, ?_⟩
    · exact trodAll_append (hargs _ (fun _ _ => rfl)) (hres 0 (fun _ => true) true)
    · rw [hv]; rfl
    · simpa using hfz'
    · simpa using hnd
    · intro x hx _
      simpa using hx

/-- What a call that starts on nothing leaves of the old memory. -/
theorem Ext.start {μ κ μ' κ' : Nat → Nat} {h' : Heap} {w w' : World} (x : Ext μ κ μ' κ' [] h' w w') (b : Nat) (hb : b < w.heap.size) : w'.heap[b]? = w.heap[b]? :=
  x.keep b hb fun i o h => by simp at h
end
end Go.Fm
