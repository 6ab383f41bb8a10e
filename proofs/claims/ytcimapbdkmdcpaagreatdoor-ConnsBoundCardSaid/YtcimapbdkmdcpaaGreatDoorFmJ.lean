/- FM, a program logic over the given model with abstract values and an abstract heap: general lemmas. No statement is closed in this text. -/
import Derived.Test.YtcimapbdkmdcpaaGreatDoorFmI
set_option linter.unusedVariables false
set_option linter.unusedSimpArgs false
namespace Go.Fm
open Go

structure SrcOk (P : Program) (es n : Nat) (xs : List Value) (y : Value) (w : World) : Prop where
  len : (Builtin.lenOf y).run P w = .ok n w
  cells : ∀ w' : World, w'.heap = w.heap → (Builtin.firstCells es n y).run P w' = .ok xs.toArray w'

/-- Is a slice's place known? (of no element: it does not matter) -/
def atOk (Tb : TypeId → Option TInfo) (h : Heap) (id off len es : Nat) : ACap → Bool
  | .exact _ => true
  | .opn 0 0 => Nat.beq off 0
  | .opn eo _ => bif Nat.beq len 0 then true else (match nth h id with
    | some (.cells cs e true _) => match Tb e with
      | some ei => bif Nat.beq ei.size es then (bif Nat.beq (eo * es) off then (bif Nat.blt off (off + len * es) then Nat.ble (off + len * es) cs.length else false) else false) else false
      | none => false
    | _ => false)

/-- What an append or a copy takes: how many elements, and their cells. -/
def srcA (Tb : TypeId → Option TInfo) (h : Heap) (es : Nat) : AV → Option (Nat × List AV)
  | .slc id off n cap => match atOk Tb h id off n es cap, nth h id with
    | true, some (.cells cs _ _ _) => match takeN (n * es) (cs.drop off) with
      | some xs => some (n, xs)
      | none => none
    | _, _ => none
  | .nils => some (0, [])
  | .str s => match es with
    | 1 => some (s.length, s.map byteAV)
    | _ => none
  | _ => none

theorem byteAV_conc (μ κ : Nat → Nat) (s : List UInt8) : concs μ κ (s.map byteAV) = s.map fun b => Value.int .u8 (b.toNat : Int) := by
  rw [concs_map, List.map_map]; rfl
theorem byteAV_le (n : Nat) (s : List UInt8) : AVs.le n (s.map byteAV) := by
  rw [AVs.le_iff]; intro v hv; obtain ⟨b, _, rfl⟩ := List.mem_map.1 hv; trivial
theorem byteAV_one (s : List UInt8) : allOne (s.map byteAV) = true := by
  induction s with
  | nil => rfl
  | cons b t ih => simp [allOne, byteAV, AV.one, ih]

section
variable {P : Program} {Tb : TypeId → Option TInfo} {G : Nat → Nat → Option AV} {μ κ : Nat → Nat} {h : Heap} {N : Nat} {fr : Frame} {a : Act} {w : World}

theorem atOk_conc (hT : TbOk P Tb) (hh : HRel P G μ κ h w) {id off len es : Nat} {cap : ACap} (h0 : atOk Tb h id off len es cap = true) :
    ∃ off' c, conc μ κ (.slc id off len cap) = .slice (some ⟨μ id, off', none⟩) len c ∧ (len ≠ 0 → off' = off) := by
  unfold atOk at h0
  split at h0
  · exact ⟨off, _, rfl, fun _ => rfl⟩
  · have := Nat.eq_of_beq_eq_true h0
    subst this
    refine ⟨0, κ id - 0, ?_, fun _ => rfl⟩
    simp [conc]
  · rename_i eo prev hne
    refine ⟨if κ id = eo then prev else off, κ id - eo, rfl, fun hl => ?_⟩
    cases b0 : Nat.beq len 0 with
    | true => exact absurd (Nat.eq_of_beq_eq_true b0) hl
    | false =>
      simp only [b0, cond_false] at h0
      split at h0
      · rename_i cs e wr ho
        split at h0
        · rename_i ei hei
          cases b1 : Nat.beq ei.size es with
          | false => simp [b1] at h0
          | true =>
            cases b2 : Nat.beq (eo * es) off with
            | false => simp [b1, b2] at h0
            | true =>
              cases b3 : Nat.blt off (off + len * es) with
              | false => simp [b1, b2, b3] at h0
              | true =>
                simp only [b1, b2, b3, cond_true] at h0
                have q1 := Nat.eq_of_beq_eq_true b1
                have q2 := Nat.eq_of_beq_eq_true b2
                have q3 : off < off + len * es := by simpa [Nat.blt_eq] using b3
                have q4 := Nat.le_of_ble_eq_true h0
                rw [nth_eq] at ho
                obtain ⟨bo, hb, c, fz, extra, rfl, e2, e3, e4, e5⟩ := hh.obj id _ ho rfl
                obtain ⟨_, de, hte⟩ := hT e ei hei
                have hc := e4 rfl
                rw [hte.cells, q1] at hc
                have hcl : cs.length ≤ c.size := by rw [← Array.length_toList, e2]; simp [concs_length]
                have hlt : eo * es < κ id * es := by omega
                have := Nat.lt_of_mul_lt_mul_right hlt
                rw [if_neg (by omega)]
        · simp at h0
      · simp at h0

theorem srcA_sound (hT : TbOk P Tb) (hh : HRel P G μ κ h w) {es n : Nat} {v : AV} {xs : List AV} (hv : srcA Tb h es v = some (n, xs)) (hvl : v.le h.length) : SrcOk P es n (concs μ κ xs) (conc μ κ v) w ∧ xs.length = n * es ∧ AVs.le h.length xs := by
  unfold srcA at hv
  split at hv
  · rename_i id off n' cap
    split at hv
    · rename_i cs ty opn wr hc ho
      split at hv
      · rename_i l hl
        simp at hv; obtain ⟨rfl, rfl⟩ := hv
        rw [nth_eq] at ho
        obtain ⟨bo, hb, hr⟩ := hh.obj id _ ho rfl
        obtain ⟨t1, t2, t3⟩ := takeN_some hl
        obtain ⟨off', c, hcc, hoff⟩ := atOk_conc hT hh hc
        have hle : AVs.le h.length cs := hh.le id _ ho
        refine ⟨⟨by rw [hcc]; rfl, fun w' hw' => ?_⟩, t2, ?_⟩
        · rw [hcc]
          refine run_firstCells_some (P := P) w' es n' _ n' c (concs μ κ l) (by rw [concs_length, t2]) ?_
          intro j u hu
          rw [concs_get, Option.map_eq_some_iff] at hu
          obtain ⟨x, hx, rfl⟩ := hu
          rw [Addr.add_lit]
          have hb' : w'.heap[μ id]? = some bo := by rw [hw']; exact hb
          have hn0 : n' ≠ 0 := by intro e; subst e; simp at t2; subst t2; simp at hx
          rw [hoff hn0]
          refine obj_cells hr hb' _ _ ?_
          rw [t1, List.getElem?_take] at hx
          split at hx
          · rw [List.getElem?_drop] at hx; exact hx
          · simp at hx
        · rw [AVs.le_iff] at hle ⊢
          intro x hx
          rw [t1] at hx
          exact hle x (List.mem_of_mem_drop (List.mem_of_mem_take hx))
      · simp at hv
    · simp at hv
  · simp at hv; obtain ⟨rfl, rfl⟩ := hv
    exact ⟨⟨rfl, fun w' _ => by simp [conc, concs, Builtin.firstCells]⟩, by simp, trivial⟩
  · rename_i s
    split at hv
    · simp at hv; obtain ⟨rfl, rfl⟩ := hv
      refine ⟨⟨by simp [conc, Builtin.lenOf, ByteArray.size], fun w' _ => ?_⟩, by simp, byteAV_le _ _⟩
      simp only [conc, Builtin.firstCells, Sem.run_pure, byteAV_conc]
      congr 1
      apply Array.ext'
      simp [ByteArray.data_extract]
    · simp at hv
  · simp at hv

set_option maxHeartbeats 1000000 in
theorem run_app_fit {t u e : TypeId} {ty : TypeId} {ti : TypeInfo} {d2 : TypeDesc} (ht : P.underlying t = some (.slice e)) (hi : P.info? e = some ti) (hu : P.underlying u = some d2) (hd2 : (∃ e2, d2 = .slice e2) ∨ d2 = .string) {base : Option Addr} {sLen sCap n : Nat} {y : Value} {xs : List Value}
    (hs : SrcOk P ti.size n xs y w) (hn : sLen + n ≤ sCap) (w' : World) (hst : (match base with
      | some b => storeCells (b.add (sLen * ti.size)) xs
      | none => pure ()).run P w = .ok () w') :
    (Builtin.append_ #[t, u] ty #[.slice base sLen sCap, y]).run P w = .ok (.slice base (sLen + n) sCap) w' := by
  have hc := hs.cells w rfl
  cases base with
  | none =>
    simp at hst; subst hst
    rcases hd2 with ⟨e2, rfl⟩ | rfl <;> simp [Builtin.append_, run_underlying ht, run_underlying hu, sizeOf, typeInfo, hi, hs.len, hn, hc]
  | some b =>
    simp at hst
    rcases hd2 with ⟨e2, rfl⟩ | rfl <;> simp [Builtin.append_, run_underlying ht, run_underlying hu, sizeOf, typeInfo, hi, hs.len, hn, hc, hst]

set_option maxHeartbeats 1000000 in
theorem run_app_grow {t u e : TypeId} {ty : TypeId} {ti : TypeInfo} {z : Value} {d2 : TypeDesc} (ht : P.underlying t = some (.slice e)) (hi : P.info? e = some ti) (hz : ti.zero = some z) (hu : P.underlying u = some d2) (hd2 : (∃ e2, d2 = .slice e2) ∨ d2 = .string) {base : Option Addr} {sLen sCap n : Nat} {y : Value} {xs olds : List Value}
    (hs : SrcOk P ti.size n xs y w) (ho : ∀ w' : World, w'.heap = w.heap → (Builtin.firstCells ti.size sLen (.slice base sLen sCap)).run P w' = .ok olds.toArray w') (hn : sCap < sLen + n) (h63 : sLen + n ≤ 9223372036854775807) (h47 : (sLen + n) * ti.bytes ≤ 140737488355328) :
    (Builtin.append_ #[t, u] ty #[.slice base sLen sCap, y]).run P w =
      .ok (.slice (some ⟨w.heap.size, 0, none⟩) (sLen + n) (grownCap w (sLen + n) sCap e)) (w.drew.alloc (.cells (olds.toArray ++ (xs.toArray ++ Builtin.zeroCells z.cells (grownCap w (sLen + n) sCap e - (sLen + n)))) e)) := by
  have hc := hs.cells w.drew rfl
  have hoo := ho w.drew rfl
  have hn' : ¬ (sLen + n ≤ sCap) := by omega
  have h63' : ¬ (9223372036854775807 < ((sLen : Int) + (n : Int))) := by omega
  have hfit := growslice_fits (old := sCap) hn h47
  have h48' : ¬ (281474976710656 < Builtin.nextslicecap (sLen + n) sCap * ti.bytes) := by omega
  rcases hd2 with ⟨e2, rfl⟩ | rfl <;>
    simp [Builtin.append_, run_underlying ht, run_underlying hu, sizeOf, typeInfo, zeroValue, hi, hz, hs.len, hn', h63', h48', Question.forced, hc, hoo, newRow, grownCap]
end
end Go.Fm
