/- FM, a program logic over the given model with abstract values and an abstract heap: general lemmas. No statement is closed in this text. -/
import Derived.Test.YtcimapbdkmdcpaaGreatDoorFmP
import Derived.Laws.MakeOwn
import Derived.Laws.StructEq
import Derived.Laws.IdiomStrings
import Derived.Laws.RangeString
set_option linter.unusedVariables false
set_option linter.unusedSimpArgs false
namespace Go.Fm
open Go

section
variable {P : Program} {Tb : TypeId → Option TInfo} {G : Nat → Nat → Option AV} {μ κ : Nat → Nat} {h : Heap} {N : Nat} {fr : Frame} {a : Act} {w : World}

theorem st_make (hT : TbOk P Tb) {o : Oper} {t e : TypeId} {x y : Operand} {i ei : TInfo} {z : AV} {k k' : IntKind} {l c : Int} (ho : o.op = .makeSlice t x y) (hi : Tb t = some i) (hk : i.uk = .slc e) (hei : Tb e = some ei)
    (hz : ei.zero = some z) (hzl : Nat.beq z.cells.length ei.size = true) (hx : ev fr x = some (.int k l)) (hy : ev fr y = some (.int k' c)) (h0 : 0 ≤ l ∧ l ≤ c) (hb : c.toNat * ei.bytes ≤ 281474976710656 ∧ c ≤ 9223372036854775807) :
    StepTo P G o fr h (.slc h.length 0 l.toNat (.exact c.toNat)) (h ++ [.cells (repl c.toNat z.cells) e false true]) := by
  intro N μ κ a w hh hf
  have hzl := Nat.eq_of_beq_eq_true hzl
  obtain ⟨ti, d, ht⟩ := hT t i hi
  obtain ⟨te, de, hte⟩ := hT e ei hei
  have hu := ht.uk
  simp only [hk, ukRel] at hu
  subst hu
  have e1 := (ev_sound hf hx).1
  have e2 := (ev_sound hf hy).1
  obtain ⟨zv, hz1, hz2, hz3⟩ := hte.zero z hz
  have hbb : (te.bytes : Int) * c ≤ 281474976710656 := by
    rw [hte.bytes]
    have := hb.1
    have hc : ((c.toNat : Nat) : Int) = c := by omega
    have h2 : ((c.toNat * ei.bytes : Nat) : Int) ≤ ((281474976710656 : Nat) : Int) := Int.ofNat_le.2 this
    rw [Int.natCast_mul, hc] at h2
    rw [Int.mul_comm]; exact h2
  have r := run_make (P := P) w t e te zv ht.und hte.info hz1 k k' l c h0.1 h0.2 hbb hb.2
  rw [← hz2 μ κ, hte.size] at r
  have hm : madeCells (conc μ κ z).cells (c.toNat * ei.size) = (concs μ κ (repl c.toNat z.cells)).toArray := zero_row hzl c.toNat
  rw [hm] at r
  obtain ⟨r1, r2⟩ := hh.new e (repl_le (m := h.length) c.toNat (cells_le (AV.le_mono (Nat.zero_le _) _ hz3)))
  refine ⟨_, _, _, ?_, r1, by simp [AV.le], r2⟩
  simp only [execOp, ho, e1, e2, conc, Sem.run_bind, r, Result.andThen_ok]
  simp only [upd_same]
  rfl

/-- The first elements alone. -/
theorem srcA_take (hT : TbOk P Tb) (hh : HRel P G μ κ h w) {es n : Nat} {v : AV} {xs : List AV} (hv : srcA Tb h es v = some (n, xs)) (hvl : v.le h.length) {m : Nat} (hm : m ≤ n) :
    (Builtin.firstCells es m (conc μ κ v)).run P w = .ok (concs μ κ (xs.take (m * es))).toArray w := by
  have hs := srcA_sound (P := P) (G := G) hT hh hv hvl
  unfold srcA at hv
  split at hv
  · rename_i id off n' cap
    split at hv
    · rename_i cs ty opn wr hc ho
      split at hv
      · rename_i l hl
        simp at hv; obtain ⟨rfl, rfl⟩ := hv
        rw [nth_eq] at ho
        obtain ⟨bo, hb, hr⟩ := hh.obj id _ ho rfl
        obtain ⟨t1, t2, t3⟩ := takeN_some hl
        obtain ⟨off', c, hcc, hoff⟩ := atOk_conc hT hh hc
        have hme : m * es ≤ n' * es := Nat.mul_le_mul_right _ hm
        rw [hcc]
        refine run_firstCells_some (P := P) w es m _ n' c (concs μ κ (l.take (m * es))) (by rw [concs_length, List.length_take, t2]; omega) ?_
        intro j u hu
        rw [concs_get, Option.map_eq_some_iff] at hu
        obtain ⟨x, hx, rfl⟩ := hu
        rw [Addr.add_lit]
        have hn0 : n' ≠ 0 := by intro e; subst e; simp at t2; subst t2; simp at hx
        rw [hoff hn0]
        refine obj_cells hr hb _ _ ?_
        rw [List.getElem?_take] at hx
        split at hx
        · rw [t1, List.getElem?_take] at hx
          split at hx
          · rw [List.getElem?_drop] at hx; exact hx
          · simp at hx
        · simp at hx
      · simp at hv
    · simp at hv
  · simp at hv; obtain ⟨rfl, rfl⟩ := hv
    have : m = 0 := by omega
    subst this
    simp [conc, concs, Builtin.firstCells]
  · rename_i s
    split at hv
    · simp at hv; obtain ⟨rfl, rfl⟩ := hv
      simp only [conc, Builtin.firstCells, Sem.run_pure, Nat.mul_one, ← List.map_take, byteAV_conc]
      congr 1
      apply Array.ext'
      simp [ByteArray.data_extract]
    · simp at hv
  · simp at hv

theorem exec_copy {o : Oper} {x y : Operand} {t u : TypeId} (ho : o.op = .call { callee := .builtin .copy, args := #[x, y], argTypes := #[t, u] }) {vx vy : AV} (hf : FRel N μ κ fr h.length a) (hx : ev fr x = some vx) (hy : ev fr y = some vy) {v : Value} {w' : World}
    (hr : (Builtin.copy_ #[t, u] o.type #[conc μ κ vx, conc μ κ vy]).run P w = .ok v w') : (execOp a.eval o).run P w = .ok (.value v) w' := by
  have e1 := (ev_sound hf hx).1
  have e2 := (ev_sound hf hy).1
  simp [execOp, ho, resolve, invoke, builtin, e1, e2, hr]

theorem allOne_iff {xs : List AV} : allOne xs = true ↔ ∀ x ∈ xs, x.one = true := by
  induction xs with
  | nil => simp [allOne]
  | cons x t ih =>
    simp only [allOne]
    cases e : x.one <;> simp [e, ih]
theorem allOne_take {xs : List AV} (n : Nat) (h : allOne xs = true) : allOne (xs.take n) = true := by
  rw [allOne_iff] at *
  exact fun x hx => h x (List.mem_of_mem_take hx)

/-- copy into a slice. -/
theorem st_copy (hT : TbOk P Tb) {o : Oper} {x y : Operand} {t u e : TypeId} {i ei : TInfo} {id off dl : Nat} {cap : ACap} {vy : AV} {m : Nat} {xs cs cs' : List AV} {ty : TypeId} {opn : Bool}
    (ho : o.op = .call { callee := .builtin .copy, args := #[x, y], argTypes := #[t, u] }) (hi : Tb t = some i) (hk : i.uk = .slc e) (hei : Tb e = some ei) (hx : ev fr x = some (.slc id off dl cap)) (hy : ev fr y = some vy) (hc : atOk Tb h id off dl ei.size cap = true)
    (hob : nth h id = some (.cells cs ty opn true)) (hsrc : srcA Tb h ei.size vy = some (m, xs)) (h1 : allOne xs = true) (hov : over cs off (xs.take (min m dl * ei.size)) = some cs') :
    StepTo P G o fr h (.int .i64 ((min m dl : Nat) : Int)) (setNth h id (.cells cs' ty opn true)) := by
  intro N μ κ a w hh hf
  obtain ⟨ti, d, ht⟩ := hT t i hi
  obtain ⟨te, de, hte⟩ := hT e ei hei
  have hu := ht.uk
  simp only [hk, ukRel] at hu
  subst hu
  have e1 := ev_sound hf hx
  have e2 := ev_sound hf hy
  obtain ⟨off', c, hcc, hoff⟩ := atOk_conc hT hh hc
  rw [nth_eq] at hob
  have s := srcA_sound (P := P) (G := G) hT hh hsrc e2.2
  have hle : AVs.le h.length (xs.take (min m dl * ei.size)) := by
    have := s.2.2
    rw [AVs.le_iff] at this ⊢
    exact fun v hv => this v (List.mem_of_mem_take hv)
  obtain ⟨w', r, hh', hx'⟩ := store_obj hh hob hov (allOne_take _ h1) hle
  rw [setNth_eq]
  refine ⟨μ, κ, w', ?_, hh', trivial, hx'⟩
  refine exec_copy ho hf hx hy ?_
  have hf1 := srcA_take (P := P) (G := G) hT hh hsrc e2.2 (Nat.min_le_left m dl)
  rw [hcc]
  have r : (storeCells ⟨μ id, off', none⟩ (concs μ κ (xs.take (min m dl * ei.size)))).run P w = .ok () w' := by
    by_cases h0 : dl = 0
    · subst h0
      simp [concs, storeCells] at r ⊢
      exact r
    · rw [hoff h0]; exact r
  have hmin : Nat.min m dl = min m dl := rfl
  simp only [Builtin.copy_, Sem.run_bind, ht.run_underlying, Result.andThen_ok, s.1.len, hte.run_size, hmin, hf1, r]
  simp [conc, ht.run_underlying, s.1.len, hte.run_size, hmin, hf1, r, goInt]

/-- copy into no slice. -/
theorem st_copyN (hT : TbOk P Tb) {o : Oper} {x y : Operand} {t u e : TypeId} {i ei : TInfo} {vy : AV} {m : Nat} {xs : List AV}
    (ho : o.op = .call { callee := .builtin .copy, args := #[x, y], argTypes := #[t, u] }) (hi : Tb t = some i) (hk : i.uk = .slc e) (hei : Tb e = some ei) (hx : ev fr x = some .nils) (hy : ev fr y = some vy)
    (hsrc : srcA Tb h ei.size vy = some (m, xs)) :
    StepTo P G o fr h (.int .i64 0) h := by
  intro N μ κ a w hh hf
  obtain ⟨ti, d, ht⟩ := hT t i hi
  obtain ⟨te, de, hte⟩ := hT e ei hei
  have hu := ht.uk
  simp only [hk, ukRel] at hu
  subst hu
  have e2 := ev_sound hf hy
  have s := srcA_sound (P := P) (G := G) hT hh hsrc e2.2
  refine ⟨μ, κ, w, ?_, hh, trivial, Ext.refl _ _ _ _⟩
  refine exec_copy ho hf hx hy ?_
  have hf1 := srcA_take (P := P) (G := G) hT hh hsrc e2.2 (Nat.zero_le m)
  have hmin : Nat.min m 0 = 0 := Nat.min_zero m
  simp [Builtin.copy_, conc, ht.run_underlying, s.1.len, hte.run_size, hmin, hf1, goInt]

/-- clear of a slice. -/
theorem st_clear (hT : TbOk P Tb) {o : Oper} {x : Operand} {t e : TypeId} {i ei : TInfo} {z : AV} {id off dl : Nat} {cap : ACap} {cs cs' : List AV} {ty : TypeId} {opn : Bool}
    (ho : o.op = .call { callee := .builtin .clear, args := #[x], argTypes := #[t] }) (hi : Tb t = some i) (hk : i.uk = .slc e) (hei : Tb e = some ei) (hz : ei.zero = some z) (hzl : Nat.beq z.cells.length ei.size = true) (hx : ev fr x = some (.slc id off dl cap)) (hc : atOk Tb h id off dl ei.size cap = true)
    (hob : nth h id = some (.cells cs ty opn true)) (h1 : allOne z.cells = true) (hov : over cs off (repl dl z.cells) = some cs') :
    StepTo P G o fr h (.tup []) (setNth h id (.cells cs' ty opn true)) := by
  intro N μ κ a w hh hf
  have hzl := Nat.eq_of_beq_eq_true hzl
  obtain ⟨ti, d, ht⟩ := hT t i hi
  obtain ⟨te, de, hte⟩ := hT e ei hei
  have hu := ht.uk
  simp only [hk, ukRel] at hu
  subst hu
  have e1 := ev_sound hf hx
  obtain ⟨off', c, hcc, hoff⟩ := atOk_conc hT hh hc
  have ez := hte.run_zero w hz μ κ
  rw [nth_eq] at hob
  have h1r : ∀ n, allOne (repl n z.cells) = true := by
    intro n
    induction n with
    | zero => rfl
    | succ n ih =>
      rw [allOne_iff] at *
      intro x hx
      rcases List.mem_append.1 hx with q | q
      · exact h1 x q
      · exact ih x q
  obtain ⟨w', r, hh', hx'⟩ := store_obj hh hob hov (h1r dl) (repl_le (m := h.length) dl (cells_le (AV.le_mono (Nat.zero_le _) _ ez.2)))
  rw [setNth_eq]
  refine ⟨μ, κ, w', ?_, hh', trivial, hx'⟩
  have hm : (Builtin.zeroCells (conc μ κ z).cells dl).toList = concs μ κ (repl dl z.cells) := by
    have hzc : (conc μ κ z).cells.size = ei.size := by rw [← Array.length_toList, cells_conc, concs_length, hzl]
    have := zero_row (μ := μ) (κ := κ) (z := z) hzl dl
    unfold Builtin.zeroCells
    rw [hzc] at this ⊢
    rw [this]
  simp only [execOp, ho, resolve, invoke, builtin, Sem.run_bind]
  have key : (Builtin.clear_ #[t] o.type #[conc μ κ (.slc id off dl cap)]).run P w = .ok (.tuple #[]) w' := by
    rw [hcc]
    cases dl with
    | zero =>
      have e0 : cs' = cs := by
        have := over_some hov
        apply List.ext_getElem?
        intro j
        rw [this.2.2 j]
        rw [if_neg (by simp [repl])]
      simp [repl, concs, storeCells] at r
      subst r
      simp [Builtin.clear_, ht.run_underlying]
    | succ n =>
      rw [← hoff (by omega)] at r
      simp [Builtin.clear_, ht.run_underlying, ez.1, hm, r]
  simp [e1.1, key]
  rfl
end
end Go.Fm
