/- FM, a program logic over the given model with abstract values and an abstract heap: general lemmas. No statement is closed in this text. -/
import Derived.Test.YtcimapbdkmdcpaaGreatDoorFmV
set_option linter.unusedVariables false
set_option linter.unusedSimpArgs false
namespace Go.Fm
open Go

section
variable {P : Program} {Tb : TypeId → Option TInfo} {G : Nat → Nat → Option AV} {μ κ : Nat → Nat} {h h2 : Heap} {N : Nat} {fr : Frame} {a : Act} {w : World} {E : TypeId → Bool} {X : FuncId → Option XK} {o : Oper} {v : AV} {r : MRes}

theorem appM_ok (hT : TbOk P Tb) {t u : TypeId} {x y : Operand} (ho : o.op = .call { callee := .builtin .append, args := #[x, y], argTypes := #[t, u] }) (hv : appM Tb fr h t u x y = some r) : r.Ok P G o fr h := by
  unfold appM at hv
  split at hv
  · rename_i e ei z vx vy hA hx hy
    have A := appTy_ok hA
    split at hv
    · rename_i m xs hsrc
      split at hv
      · split at hv
        · simp at hv; subst hv; exact st_append_nil0 hT ho A hx hy hsrc
        · rename_i m
          cases b1 : Nat.ble ((m + 1) * ei.bytes) 140737488355328 <;> cases b2 : Nat.ble (m + 1) 9223372036854775807 <;> simp [b1, b2] at hv
          subst hv
          have := st_append_grow (fr := fr) (G := G) (len := 0) (cap := 0) (old := []) hT ho A hx hy (.inl ⟨rfl, rfl, rfl⟩) rfl hsrc (by omega) (by rw [Nat.zero_add]; exact Nat.le_of_ble_eq_true b1) (by rw [Nat.zero_add]; exact Nat.le_of_ble_eq_true b2)
          simpa [MRes.Ok] using this
      · rename_i id len
        split at hv
        · rename_i cs e' hob
          cases b0 : Nat.beq e e' with
          | false => simp [b0] at hv
          | true =>
            have := Nat.eq_of_beq_eq_true b0
            subst this
            cases b1 : allOne xs with
            | false => simp [b0, b1] at hv
            | true =>
              simp only [b0, b1, cond_true] at hv
              cases b5 : (bif Nat.blt 0 ei.size then Nat.ble ((len + m) * ei.size) cs.length else false) with
              | true =>
                simp only [b5, cond_true] at hv
                split at hv
                · rename_i cs' hov
                  simp only [Option.some.injEq] at hv; subst hv
                  cases b6 : Nat.blt 0 ei.size with
                  | false => simp [b6] at b5
                  | true =>
                    simp only [b6, cond_true] at b5
                    exact st_append_room hT ho A hx hy hob b6 hsrc (Nat.le_of_ble_eq_true b5) hov b1
                · simp at hv
              | false =>
                simp only [b5, cond_false] at hv
                cases b2 : Nat.ble (len * ei.size) cs.length <;> cases b3 : Nat.ble ((len + m) * ei.bytes) 140737488355328 <;> cases b4 : Nat.ble (len + m) 9223372036854775807 <;> simp [b2, b3, b4] at hv
                subst hv
                exact st_append_opn hT ho A hx hy hob (Nat.le_of_ble_eq_true b2) hsrc b1 (Nat.le_of_ble_eq_true b3) (Nat.le_of_ble_eq_true b4)
        · simp at hv
      · rename_i id off len cap
        split at hv
        · rename_i hle
          split at hv
          · rename_i cs ty opn hob
            cases b1 : allOne xs with
            | false => simp [b1] at hv
            | true =>
              simp only [b1, cond_true] at hv
              split at hv
              · rename_i cs' hov
                simp at hv; subst hv
                exact st_append_fit hT ho A hx hy hob hsrc (Nat.le_of_ble_eq_true hle) hov b1
              · simp at hv
          · simp at hv
        · rename_i hle
          split at hv
          · rename_i m' old hold
            cases b1 : Nat.ble ((len + m) * ei.bytes) 140737488355328 <;> cases b2 : Nat.ble (len + m) 9223372036854775807 <;> simp [b1, b2] at hv
            subst hv
            have hm : m' = len := by
              have := hold
              simp only [srcA] at this
              split at this
              · split at this
                · simp at this; exact this.1.symm
                · simp at this
              · simp at this
            subst hm
            have hlt : cap < m' + m := by
              rcases Nat.lt_or_ge cap (m' + m) with q | q
              · exact q
              · rw [Nat.ble_eq_true_of_le q] at hle; simp at hle
            exact st_append_grow hT ho A hx hy (.inr ⟨id, off, rfl⟩) hold hsrc hlt (Nat.le_of_ble_eq_true b1) (Nat.le_of_ble_eq_true b2)
          · simp at hv
      · simp at hv
    · simp at hv
  · simp at hv

theorem cpyM_ok (hT : TbOk P Tb) {t u : TypeId} {x y : Operand} (ho : o.op = .call { callee := .builtin .copy, args := #[x, y], argTypes := #[t, u] }) (hv : cpyM Tb fr h t x y = some r) : r.Ok P G o fr h := by
  unfold cpyM at hv
  split at hv
  · rename_i i vx vy hi hx hy
    split at hv
    · rename_i e hk
      split at hv
      · rename_i ei hei
        split at hv
        · rename_i m xs hsrc
          split at hv
          · simp at hv; subst hv; exact st_copyN hT ho hi hk hei hx hy hsrc
          · rename_i id off dl cap
            split at hv
            · rename_i cs ty opn hob
              cases b1 : atOk Tb h id off dl ei.size cap with
              | false => simp [b1] at hv
              | true =>
                cases b2 : allOne xs with
                | false => simp [b1, b2] at hv
                | true =>
                  simp only [b1, b2, cond_true] at hv
                  split at hv
                  · rename_i cs' hov
                    simp only [Option.some.injEq] at hv; subst hv
                    exact st_copy hT ho hi hk hei hx hy b1 hob hsrc b2 hov
                  · simp at hv
            · simp at hv
          · simp at hv
        · simp at hv
      · simp at hv
    · simp at hv
  · simp at hv

theorem clrM_ok (hT : TbOk P Tb) {t : TypeId} {x : Operand} (ho : o.op = .call { callee := .builtin .clear, args := #[x], argTypes := #[t] }) (hv : clrM Tb fr h t x = some r) : r.Ok P G o fr h := by
  unfold clrM at hv
  split at hv
  · rename_i i id off dl cap hi hx
    split at hv
    · rename_i e hk
      split at hv
      · rename_i ei hei
        split at hv
        · rename_i z cs ty opn hz hob
          cases b1 : Nat.beq z.cells.length ei.size with
          | false => simp [b1] at hv
          | true =>
            cases b2 : atOk Tb h id off dl ei.size cap with
            | false => simp [b1, b2] at hv
            | true =>
              cases b3 : allOne z.cells with
              | false => simp [b1, b2, b3] at hv
              | true =>
                simp only [b1, b2, b3, cond_true] at hv
                split at hv
                · rename_i cs' hov
                  simp only [Option.some.injEq] at hv; subst hv
                  exact st_clear hT ho hi hk hei hz b1 hx b2 hob b3 hov
                · simp at hv
        · simp at hv
      · simp at hv
    · simp at hv
  · simp at hv

theorem stoM_ok (hT : TbOk P Tb) {t : TypeId} {p x : Operand} (ho : o.op = .store t p x) (hv : stoM Tb fr h t p x = some r) : r.Ok P G o fr h := by
  unfold stoM at hv
  split at hv
  · rename_i i id off v hi hp hx
    split at hv
    · rename_i cs ty opn hob
      cases b1 : Nat.beq v.cells.length i.size with
      | false => simp [b1] at hv
      | true =>
        cases b2 : allOne v.cells with
        | false => simp [b1, b2] at hv
        | true =>
          simp only [b1, b2, cond_true] at hv
          split at hv
          · rename_i cs' hov
            simp only [Option.some.injEq] at hv; subst hv
            exact st_store hT ho hp hx hi b1 hob hov b2
          · simp at hv
    · simp at hv
  · simp at hv

theorem strM_ok (hT : TbOk P Tb) {t u : TypeId} {x y : Operand} (ho : o.op = .call { callee := .builtin .unsafeString, args := #[x, y], argTypes := #[t, u] }) (hv : strM Tb fr h t x y = some r) : r.Ok P G o fr h := by
  unfold strM at hv
  split at hv
  · rename_i ti id n hti hx hy
    split at hv
    · rename_i e cs e' opn hk hob
      cases b0 : Nat.beq e e' with
      | false => simp [b0] at hv
      | true =>
        have := Nat.eq_of_beq_eq_true b0
        subst this
        simp only [b0, cond_true] at hv
        split at hv
        · rename_i ei hei
          split at hv
          · rename_i l hl
            cases b1 : Nat.beq ei.size 1 <;> cases b2 : Nat.beq l.length n <;> cases b3 : eqAVs (cs.take n) (l.map byteAV) <;> cases b4 : Nat.blt 0 n <;> cases b5 : Nat.ble n 9223372036854775807 <;> simp [b1, b2, b3, b4, b5] at hv
            subst hv
            have q := Nat.eq_of_beq_eq_true b2
            subst q
            exact st_unsafeStr hT ho hx hy rfl hti hk hei b1 hob (eqAVs_eq _ _ b3) (by simpa [Nat.blt_eq] using b4) (Nat.le_of_ble_eq_true b5)
          · simp at hv
        · simp at hv
    · simp at hv
  · simp at hv

theorem arr1 {α : Type} {a : Array α} {x : α} (h : a.toList = [x]) : a = #[x] := Array.ext' h
theorem arr2 {α : Type} {a : Array α} {x y : α} (h : a.toList = [x, y]) : a = #[x, y] := Array.ext' h

theorem memA_ok (hT : TbOk P Tb) (hX : XOk P X) {op : Op} (ho : o.op = op) (hv : memA Tb X fr h op = some r) : r.Ok P G o fr h := by
  unfold memA at hv
  split at hv
  · split at hv
    · rename_i v hx
      simp at hv; subst hv; exact st_box ho hx
    · simp at hv
  · split at hv
    · rename_i i hi
      split at hv
      · rename_i z hz
        simp at hv; subst hv; exact st_alloc hT ho hi hz
      · simp at hv
    · simp at hv
  · rename_i t len ps
    split at hv
    · rename_i i vs hi hp
      split at hv
      · rename_i e hk
        split at hv
        · rename_i ei hei
          split at hv
          · rename_i z hz
            cases b1 : Nat.beq z.cells.length ei.size with
            | false => simp [b1] at hv
            | true =>
              cases b2 : Nat.ble (len * ei.size) 16777216 with
              | false => simp [b1, b2] at hv
              | true =>
                simp only [b1, b2, cond_true] at hv
                split at hv
                · rename_i cs hcs
                  simp only [Option.some.injEq] at hv; subst hv
                  exact st_buildSlice hT ho hi hk hei hz b1 b2 hp hcs
                · simp at hv
          · simp at hv
        · simp at hv
      · simp at hv
    · simp at hv
  · split at hv
    · rename_i i k1 l k2 c hi hx hy
      split at hv
      · rename_i e hk
        split at hv
        · rename_i ei hei
          split at hv
          · rename_i z hz
            cases b1 : Nat.beq z.cells.length ei.size <;> cases b2 : leI 0 l <;> cases b3 : leI l c <;> cases b4 : Nat.ble (c.toNat * ei.bytes) 281474976710656 <;> cases b5 : leI c 9223372036854775807 <;> simp [b1, b2, b3, b4, b5] at hv
            subst hv
            exact st_make hT ho hi hk hei hz b1 hx hy ⟨leI_ok b2, leI_ok b3⟩ ⟨Nat.le_of_ble_eq_true b4, leI_ok b5⟩
          · simp at hv
        · simp at hv
      · simp at hv
    · simp at hv
  · split at hv
    · rename_i si di r' hsi hdi hx
      split at hv
      · rename_i e hsk hdk
        split at hv
        · rename_i ei hei
          split at hv
          · rename_i hek
            cases b1 : Nat.beq ei.size 1 with
            | false => simp [b1] at hv
            | true => simp [b1] at hv; subst hv; exact st_strBytes hT ho hsi hsk hei hek b1 hdi hdk hx
          · simp at hv
        · simp at hv
      · simp at hv
    · simp at hv
  · split at hv
    · rename_i i s hi hx
      split at hv
      · rename_i hk
        simp at hv; subst hv; exact st_rangeStr hT ho hi hk hx
      · simp at hv
    · simp at hv
  · split at hv
    · rename_i id hx
      split at hv
      · rename_i s p hob
        cases b1 : Nat.blt p s.length with
        | false => simp [b1] at hv
        | true => simp [b1] at hv; subst hv; exact st_nextStr ho hx hob (by simpa [Nat.blt_eq] using b1)
      · simp at hv
    · simp at hv
  · exact stoM_ok hT ho hv
  · split at hv
    · rename_i args ts x y t u hx ht
      rw [arr2 hx, arr2 ht] at ho; exact appM_ok hT ho hv
    · simp at hv
  · split at hv
    · rename_i args ts x y t u hx ht
      rw [arr2 hx, arr2 ht] at ho; exact cpyM_ok hT ho hv
    · simp at hv
  · split at hv
    · rename_i args ts x t hx ht
      rw [arr1 hx, arr1 ht] at ho; exact clrM_ok hT ho hv
    · simp at hv
  · split at hv
    · rename_i args ts x y t u hx ht
      rw [arr2 hx, arr2 ht] at ho; exact strM_ok hT ho hv
    · simp at hv
  · split at hv
    · rename_i f n hc
      split at hv
      · rename_i t hk
        split at hv
        · rename_i ti hti
          split at hv
          · rename_i e htk
            split at hv
            · rename_i ei hei
              cases b1 : Nat.beq ei.size 1 <;> cases b2 : leI 0 n <;> cases b3 : leI n 281474976710656 <;> simp [b1, b2, b3] at hv
              subst hv
              exact st_noZero (ps := #[3]) hT ho hc (hX _ _ hk) hti htk hei b1 ⟨leI_ok b2, leI_ok b3⟩
            · simp at hv
          · simp at hv
        · simp at hv
      · simp at hv
    · simp at hv
  · simp at hv
end
end Go.Fm
