/- FM, a program logic over the given model with abstract values and an abstract heap: general lemmas. No statement is closed in this text. -/
import Derived.Test.YtcimapbdkmdcpaaGreatDoorFmQ
set_option linter.unusedVariables false
set_option linter.unusedSimpArgs false
namespace Go.Fm
open Go

def bytesA : List AV → Option (List UInt8)
  | [] => some []
  | .int .u8 n :: t => match bytesA t with
    | some l => some (UInt8.ofNat n.toNat :: l)
    | none => none
  | _ :: _ => none
theorem bytesA_map (s : List UInt8) : bytesA (s.map byteAV) = some s := by
  induction s with
  | nil => rfl
  | cons b t ih => simp only [List.map_cons, byteAV, bytesA]; rw [show bytesA (t.map byteAV) = some t from ih]; simp
theorem bytesA_spec : ∀ {l : List AV} {s : List UInt8}, bytesA l = some s → ∃ ns : List Int, l = ns.map (AV.int .u8) ∧ s = ns.map (fun n => UInt8.ofNat n.toNat)
  | [], s, h => by simp [bytesA] at h; subst h; exact ⟨[], rfl, rfl⟩
  | v :: t, s, h => by
    unfold bytesA at h
    split at h
    · rename_i he; simp at he
    · rename_i n t' he
      simp at he; obtain ⟨rfl, rfl⟩ := he
      split at h
      · rename_i l hl
        simp at h; subst h
        obtain ⟨ns, h1, h2⟩ := bytesA_spec hl
        exact ⟨n :: ns, by simp [h1], by simp [h2]⟩
      · simp at h
    · simp at h

def isSlc : AV → Bool
  | .slc .. => true
  | .nils => true
  | _ => false

section
variable {P : Program} {Tb : TypeId → Option TInfo} {G : Nat → Nat → Option AV} {μ κ : Nat → Nat} {h : Heap} {N : Nat} {fr : Frame} {a : Act} {w : World}

/-- Bytes as a text. -/
theorem st_bytesStr (hT : TbOk P Tb) {o : Oper} {s d e : TypeId} {x : Operand} {si di ei : TInfo} {vx : AV} {m : Nat} {xs : List AV} {r : List UInt8} (ho : o.op = .convert s d x) (hs : Tb s = some si) (hsk : si.uk = .slc e) (he : Tb e = some ei) (hek : ei.uk = .int .u8)
    (hd : Tb d = some di) (hdk : di.uk = .str) (hx : ev fr x = some vx) (hsrc : srcA Tb h 1 vx = some (m, xs)) (hsl : isSlc vx = true) (hr : bytesA xs = some r) : StepTo P G o fr h (.str r) h := by
  intro N μ κ a w hh hf
  obtain ⟨ti, td, ht⟩ := hT s si hs
  obtain ⟨te, de, hte⟩ := hT e ei he
  obtain ⟨tdi, dd, htd⟩ := hT d di hd
  have u1 := ht.uk
  have u2 := hte.uk
  have u3 := htd.uk
  simp only [hsk, ukRel] at u1
  simp only [hek, ukRel] at u2
  simp only [hdk, ukRel] at u3
  subst u1 u2 u3
  have e1 := ev_sound hf hx
  have S := srcA_sound (P := P) (G := G) hT hh hsrc e1.2
  have F := srcA_take (P := P) (G := G) hT hh hsrc e1.2 (Nat.le_refl m)
  refine ⟨μ, κ, w, ?_, hh, trivial, Ext.refl _ _ _ _⟩
  obtain ⟨ns, n1, n2⟩ := bytesA_spec hr
  have hcs : concs μ κ xs = ns.map (Value.int .u8) := by rw [n1, concs_map, List.map_map]; rfl
  have htk : xs.take (m * 1) = xs := List.take_of_length_le (by rw [S.2.1]; omega)
  rw [htk, hcs] at F
  have hm : m = ns.length := by have := S.2.1; rw [n1] at this; simpa using this.symm
  have key : ∀ b c, conc μ κ vx = .slice b m c → (convert s d (conc μ κ vx)).run P w = .ok (.string ⟨r.toArray⟩) w := by
    intro b c hb
    rw [hb] at F ⊢
    rw [run_convert_bytes_string w s d e b m c ht.und hte.und htd.und]
    cases b with
    | none =>
      have : ns = [] := by
        simp [Builtin.firstCells] at F
        cases ns with
        | nil => rfl
        | cons _ _ => simp at F
      subst this
      simp at n2; subst n2
      simp [Conv.bytesToString]; rfl
    | some b =>
      have F' : (loadCells b m).run P w = .ok (ns.map (Value.int .u8)).toArray w := by
        simpa [Builtin.firstCells] using F
      rw [run_bytesToString w b m c ns F', n2]
      congr 2
      have := foldl_push_bytes ns ByteArray.empty
      rw [this]
      have he0 : ByteArray.empty.data = #[] := rfl
      rw [he0]; simp
  have hc : ∃ b c, conc μ κ vx = .slice b m c := by
    cases vx with
    | slc id off n cap =>
      have := S.1.len
      unfold srcA at hsrc
      simp only at hsrc
      split at hsrc
      · split at hsrc
        · simp at hsrc; obtain ⟨rfl, _⟩ := hsrc
          cases cap <;> exact ⟨_, _, rfl⟩
        · simp at hsrc
      · simp at hsrc
    | nils => simp [srcA] at hsrc; obtain ⟨rfl, _⟩ := hsrc; exact ⟨none, 0, rfl⟩
    | _ => simp [isSlc] at hsl
  obtain ⟨b, c, hc⟩ := hc
  simp only [execOp, ho, e1.1, Sem.run_bind, key b c hc, Result.andThen_ok]
  rfl

/-- A text as bytes. -/
theorem st_strBytes (hT : TbOk P Tb) {o : Oper} {s d e : TypeId} {x : Operand} {si di ei : TInfo} {r : List UInt8} (ho : o.op = .convert s d x) (hs : Tb s = some si) (hsk : si.uk = .str) (he : Tb e = some ei) (hek : ei.uk = .int .u8) (hes : Nat.beq ei.size 1 = true)
    (hd : Tb d = some di) (hdk : di.uk = .slc e) (hx : ev fr x = some (.str r)) : StepTo P G o fr h (.slc h.length 0 r.length (.opn 0 0)) (h ++ [.cells (r.map byteAV) e true true]) := by
  intro N μ κ a w hh hf
  obtain ⟨ti, td, ht⟩ := hT s si hs
  obtain ⟨te, de, hte⟩ := hT e ei he
  obtain ⟨tdi, dd, htd⟩ := hT d di hd
  have u1 := ht.uk
  have u2 := hte.uk
  have u3 := htd.uk
  simp only [hsk, ukRel] at u1
  simp only [hek, ukRel] at u2
  simp only [hdk, ukRel] at u3
  subst u1 u2 u3
  have e1 := (ev_sound hf hx).1
  have hc1 : P.cellsOf e = 1 := by rw [hte.cells]; exact Nat.eq_of_beq_eq_true hes
  have R := run_bytes_of_string (P := P) w s d e ⟨r.toArray⟩ ht.und htd.und hte.und
  have hsz : (ByteArray.mk r.toArray).size = r.length := by simp [ByteArray.size]
  rw [hsz] at R
  have hge := grownCap_ge w r.length 0 e
  generalize grownCap w r.length 0 e = cap at R hge
  have hbl : (bytesRow ⟨r.toArray⟩ cap).toList = concs μ κ (r.map byteAV) ++ List.replicate (cap - r.length) (.int .u8 0) := by
    simp [bytesRow, byteAV_conc, hsz]
  have hbs : (bytesRow ⟨r.toArray⟩ cap).size = cap := by
    rw [← Array.length_toList, hbl]; simp [concs_length]; omega
  refine ⟨upd μ h.length w.heap.size, upd κ h.length cap, w.drew.alloc (.cells (bytesRow ⟨r.toArray⟩ cap) e ((bytesRow ⟨r.toArray⟩ cap).size, (bytesRow ⟨r.toArray⟩ cap).size + 1)), ?_, ?_, by simp [AV.le], ?_⟩
  · simp only [execOp, ho, e1, conc, Sem.run_bind]
    rw [R]
    simp [conc, upd_same]
  · refine hh.push cap (by show _ ≤ (w.heap.push _).size; simp) (fun i hi => ?_) (Nat.le_refl _) (byteAV_le _ _) (bo := .cells (bytesRow ⟨r.toArray⟩ cap) e ((bytesRow ⟨r.toArray⟩ cap).size, (bytesRow ⟨r.toArray⟩ cap).size + 1)) ?_ ?_
    · show (w.heap.push _)[i]? = _
      rw [Array.getElem?_push, if_neg (by omega)]
    · show (w.heap.push _)[w.heap.size]? = _
      simp
    · refine ⟨_, _, List.replicate (cap - r.length) (.int .u8 0), rfl, ?_, by simp, fun _ => ?_, fun _ off hoff => ?_⟩
      · rw [hbl]
        congr 1
        exact (concs_congr (n := h.length) (fun i hi => ⟨upd_lt _ hi, upd_lt _ hi⟩) _ (byteAV_le _ _)).symm
      · rw [hbs, upd_same, hc1]; omega
      · simp only; omega
  · refine Ext.push w (by show _ ≤ (w.heap.push _).size; simp) (fun i hi => ?_) (Nat.le_refl _) cap rfl rfl rfl
    show (w.heap.push _)[i]? = _
    rw [Array.getElem?_push, if_neg (by omega)]

/-- The walk of a text. -/
theorem st_rangeStr (hT : TbOk P Tb) {o : Oper} {t : TypeId} {x : Operand} {i : TInfo} {s : List UInt8} (ho : o.op = .range t x) (hi : Tb t = some i) (hk : i.uk = .str) (hx : ev fr x = some (.str s)) : StepTo P G o fr h (.ptr h.length 0) (h ++ [.sit s 0]) := by
  intro N μ κ a w hh hf
  obtain ⟨ti, d, ht⟩ := hT t i hi
  have hu := ht.uk
  simp only [hk, ukRel] at hu
  subst hu
  have e1 := (ev_sound hf hx).1
  have R := run_range_string (P := P) w t ⟨s.toArray⟩ ht.und
  refine ⟨upd μ h.length w.heap.size, upd κ h.length 0, w.iter ⟨s.toArray⟩ 0, ?_, ?_, by simp [AV.le], ?_⟩
  · simp only [execOp, ho, e1, conc, Sem.run_bind]
    rw [R]
    simp [conc, upd_same]
  · refine hh.push 0 (by show _ ≤ (w.heap.push _).size; simp) (fun i hi => ?_) (Nat.le_refl _) trivial (bo := .stringIter ⟨s.toArray⟩ 0) ?_ rfl
    · show (w.heap.push _)[i]? = _
      rw [Array.getElem?_push, if_neg (by omega)]
    · show (w.heap.push _)[w.heap.size]? = _
      simp
  · refine Ext.push w (by show _ ≤ (w.heap.push _).size; simp) (fun i hi => ?_) (Nat.le_refl _) 0 rfl rfl rfl
    show (w.heap.push _)[i]? = _
    rw [Array.getElem?_push, if_neg (by omega)]

/-- A text's rune at a place. -/
def runeAt (s : List UInt8) (p : Nat) : Nat × Nat := Utf8.decode ⟨s.toArray⟩ p

theorem st_nextStr {o : Oper} {x : Operand} {id : Nat} {s : List UInt8} {p : Nat} (ho : o.op = .next x true) (hx : ev fr x = some (.ptr id 0)) (hob : nth h id = some (.sit s p)) (hp : p < s.length) :
    StepTo P G o fr h (.tup [.bool true, .int .i64 (p : Int), .int .i32 ((runeAt s p).1 : Int)]) (setNth h id (.sit s (p + (runeAt s p).2))) := by
  intro N μ κ a w hh hf
  have e1 := (ev_sound hf hx).1
  rw [nth_eq] at hob
  obtain ⟨bo, hb, rfl⟩ := hh.obj id _ hob rfl
  have hlt : μ id < w.heap.size := (Array.getElem?_eq_some_iff.1 hb).1
  rw [setNth_eq]
  refine ⟨μ, κ, { w with heap := w.heap.setIfInBounds (μ id) (.stringIter ⟨s.toArray⟩ (p + (runeAt s p).2)) }, ?_, ?_, ⟨trivial, trivial, trivial, trivial⟩, ?_⟩
  · have hps : p < (ByteArray.mk s.toArray).size := by simpa [ByteArray.size] using hp
    simp only [execOp, ho, e1, conc, Instr.next, getObj, setObj, Sem.run_bind, Sem.run, hb, Result.andThen, hps, if_true]
    simp [Sem.run, hb, runeAt, goInt, concs, conc]
  · refine hh.update hob rfl (fun b hbn => ?_) (bo := .stringIter ⟨s.toArray⟩ (p + (runeAt s p).2)) ?_ rfl trivial
    · simp [Array.getElem?_setIfInBounds_ne (Ne.symm hbn)]
    · simp [hlt]
  · refine Ext.update hob rfl (fun b hbn => ?_) (by simp) rfl rfl rfl
    simp [Array.getElem?_setIfInBounds_ne (Ne.symm hbn)]

theorem st_nextEnd {o : Oper} {x : Operand} {id : Nat} {s : List UInt8} {p : Nat} (ho : o.op = .next x true) (hx : ev fr x = some (.ptr id 0)) (hob : nth h id = some (.sit s p)) (hp : s.length ≤ p) :
    StepTo P G o fr h (.tup [.bool false]) h := by
  intro N μ κ a w hh hf
  have e1 := (ev_sound hf hx).1
  rw [nth_eq] at hob
  obtain ⟨bo, hb, rfl⟩ := hh.obj id _ hob rfl
  refine ⟨μ, κ, w, ?_, hh, ⟨trivial, trivial⟩, Ext.refl _ _ _ _⟩
  have hps : ¬ p < (ByteArray.mk s.toArray).size := by simp [ByteArray.size]; omega
  simp only [execOp, ho, e1, conc, Instr.next, getObj, Sem.run_bind, Sem.run, hb, Result.andThen, hps, if_false]
  simp [concs, conc]

/-- Functions that the model itself answers. -/
def ExtOk (P : Program) (f : FuncId) (e : Array Value → Sem Value) : Prop := ∃ fn, P.funcs[f]? = some fn ∧ (fn.name == "runtime.NumGoroutine") = false ∧ fn.body.isNone = true ∧ Extern.findNext fn = none ∧ Extern.find fn = some e

theorem st_ext {o : Oper} {c : Call} {f : FuncId} {as : List AV} {e : Array Value → Sem Value} {v : AV} (ho : o.op = .call c) (hc : calleeOf fr c = some (f, as)) (hk : ExtOk P f e) (hv : v.le 0)
    (hr : ∀ (μ κ : Nat → Nat) (w : World), (e (concs μ κ as).toArray).run P w = .ok (conc μ κ v) w) : StepTo P G o fr h v h := by
  intro N μ κ a w hh hf
  refine ⟨μ, κ, w, ?_, hh, AV.le_mono (Nat.zero_le _) _ hv, Ext.refl _ _ _ _⟩
  unfold calleeOf at hc
  split at hc
  · rename_i g hg
    split at hc
    · rename_i fid first captured as' hgv hasv
      simp at hc; obtain ⟨rfl, rfl⟩ := hc
      have e1 := ev_sound hf hgv
      have e2 := evs_sound hf hasv
      obtain ⟨fn, q1, q2, q3, q4, q5⟩ := hk
      have e3 : c.args.map a.eval = (concs μ κ as').toArray := by apply Array.ext'; simp [e2.1]
      have R := run_callFunc_extern (P := P) q1 q2 q3 q4 q5 (concs μ κ (first ++ (as' ++ captured))).toArray w
      rw [hr μ κ w] at R
      simp only [Result.andThen_ok] at R
      simp only [execOp, ho, resolve, hg, e1.1, e3, conc, Deferred.ofValue, invoke, Sem.run_bind, Sem.run_pure, Result.andThen_ok]
      simpa [concs_append] using R
    · simp at hc
  · simp at hc

end
end Go.Fm
