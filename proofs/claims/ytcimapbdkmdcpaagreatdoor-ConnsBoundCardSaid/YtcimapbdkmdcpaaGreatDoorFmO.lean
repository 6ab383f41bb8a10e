/- FM, a program logic over the given model with abstract values and an abstract heap: general lemmas. No statement is closed in this text. -/
import Derived.Test.YtcimapbdkmdcpaaGreatDoorFmN
set_option linter.unusedVariables false
set_option linter.unusedSimpArgs false
namespace Go.Fm
open Go

/-- A test that came to 'b'. -/
inductive BD (p : Prop) : Bool → Prop
  | t : p → BD p true
  | f : ¬ p → BD p false
theorem BD.yes {p : Prop} {b : Bool} (h : BD p b) (hp : p) : b = true := by
  cases h with
  | t _ => rfl
  | f n => exact absurd hp n
theorem BD.no {p : Prop} {b : Bool} (h : BD p b) (hp : ¬ p) : b = false := by
  cases h with
  | t n => exact absurd n hp
  | f _ => rfl
theorem BD.mk (p : Prop) [Decidable p] : BD p (decide p) := by
  by_cases h : p
  · rw [decide_eq_true h]; exact .t h
  · rw [decide_eq_false h]; exact .f h
theorem BD.dec {p : Prop} [Decidable p] {b : Bool} (h : BD p b) : b = decide p := by
  cases h with
  | t x => exact (decide_eq_true x).symm
  | f x => exact (decide_eq_false x).symm
theorem BD.of {p : Prop} {b : Bool} (h : b = true ↔ p) : BD p b := by
  cases b
  · exact .f fun x => by simpa using h.2 x
  · exact .t (h.1 rfl)

@[reducible] def inR (k : IntKind) (v : Int) : Prop :=
  match k with
  | .i8 => -128 ≤ v ∧ v ≤ 127
  | .i16 => -32768 ≤ v ∧ v ≤ 32767
  | .i32 => -2147483648 ≤ v ∧ v ≤ 2147483647
  | .i64 => -9223372036854775808 ≤ v ∧ v ≤ 9223372036854775807
  | .u8 => 0 ≤ v ∧ v ≤ 255
  | .u16 => 0 ≤ v ∧ v ≤ 65535
  | .u32 => 0 ≤ v ∧ v ≤ 4294967295
  | .u64 => 0 ≤ v ∧ v ≤ 18446744073709551615

theorem wrap_inR {k : IntKind} {v : Int} (h : inR k v) : k.wrap v = v := by
  cases k <;> simp only [inR] at h <;> simp only [IntKind.wrap, IntKind.bits, IntKind.signed] <;> simp <;> omega

def sumV (op : BinOp) (a b : Int) : Option Int :=
  match op with
  | .add => some (a + b)
  | .sub => some (a - b)
  | .mul => some (a * b)
  | _ => none

def cmpP (op : BinOp) (a b : Int) : Option Prop :=
  match op with
  | .eql => some (a = b)
  | .neq => some (a ≠ b)
  | .lss => some (a < b)
  | .leq => some (a ≤ b)
  | .gtr => some (b < a)
  | .geq => some (b ≤ a)
  | _ => none

def eqP (op : BinOp) (a b : List UInt8) : Option Prop :=
  match op with
  | .eql => some (a = b)
  | .neq => some (a ≠ b)
  | _ => none

section
variable {P : Program} {Tb : TypeId → Option TInfo} {G : Nat → Nat → Option AV} {N n : Nat} {all : Array Oper} {rest : List Oper} {Q : AExit → Frame → Heap → Prop} {fr : Frame} {h : Heap} {d : Nat} {op : Op} {ty : TypeId} {pos : String} {after : Array Edge} {guard : Option (Nat × Bool)}

theorem g_step {v : AV} {h' : Heap} (hd : Nat.blt d N = true) (hs : StepTo P G ⟨some d, op, ty, pos, after, guard⟩ fr h v h') (k : opsWP P G N n all rest Q ((d, v) :: fr) h') : opsGo P G N n all ⟨some d, op, ty, pos, after, guard⟩ rest Q fr h :=
  s_step hd hs k
theorem g_stepN {v : AV} {h' : Heap} (hs : StepTo P G ⟨none, op, ty, pos, after, guard⟩ fr h v h') (k : opsWP P G N n all rest Q fr h') : opsGo P G N n all ⟨none, op, ty, pos, after, guard⟩ rest Q fr h :=
  s_step rfl hs k
theorem g_pure (hT : TbOk P Tb) {v : AV} (hd : Nat.blt d N = true) (hv : pureOp Tb G fr h op = some v) (k : opsWP P G N n all rest Q ((d, v) :: fr) h) : opsGo P G N n all ⟨some d, op, ty, pos, after, guard⟩ rest Q fr h :=
  s_pure hT hd hv k
theorem g_pureN (hT : TbOk P Tb) {v : AV} (hv : pureOp Tb G fr h op = some v) (k : opsWP P G N n all rest Q fr h) : opsGo P G N n all ⟨none, op, ty, pos, after, guard⟩ rest Q fr h :=
  s_pure hT rfl hv k

/-- A sum that is in range. -/
theorem g_sum (hT : TbOk P Tb) {bo : BinOp} {t u : TypeId} {x y : Operand} {k k' : IntKind} {a b v : Int} (hd : Nat.blt d N = true) (hx : ev fr x = some (.int k a)) (hy : ev fr y = some (.int k' b)) (hk : kindEq k k' = true) (hs : sumV bo a b = some v) (hr : inR k v)
    (kk : opsWP P G N n all rest Q ((d, .int k v) :: fr) h) : opsGo P G N n all ⟨some d, .binOp bo t x y u, ty, pos, after, guard⟩ rest Q fr h := by
  refine g_pure hT hd (v := .int k v) ?_ kk
  cases kindEq_eq hk
  cases bo <;> simp [sumV] at hs <;> subst hs <;> simp [pureOp, hx, hy, binA, hk, arith, wrap_inR hr]

/-- A test of numbers. -/
theorem g_cmp (hT : TbOk P Tb) {bo : BinOp} {t u : TypeId} {x y : Operand} {k k' : IntKind} {a b : Int} {p : Prop} (hd : Nat.blt d N = true) (hx : ev fr x = some (.int k a)) (hy : ev fr y = some (.int k' b)) (hk : kindEq k k' = true) (hs : cmpP bo a b = some p)
    (kk : ∀ c, BD p c → opsWP P G N n all rest Q ((d, .bool c) :: fr) h) : opsGo P G N n all ⟨some d, .binOp bo t x y u, ty, pos, after, guard⟩ rest Q fr h := by
  cases bo <;> simp only [cmpP, Option.some.injEq, reduceCtorEq] at hs <;> subst hs <;> first
    | exact g_pure hT hd (by simp only [pureOp, hx, hy, binA, hk, cond_true, arith]; rfl) (kk _ (.of (by simp)))
    | exact g_pure hT hd (by simp only [pureOp, hx, hy, binA, hk, cond_true, arith]; rfl) (kk _ (.mk _))

/-- A test of strings. -/
theorem g_cmpS (hT : TbOk P Tb) {bo : BinOp} {t u : TypeId} {x y : Operand} {a b : List UInt8} {p : Prop} (hd : Nat.blt d N = true) (hx : ev fr x = some (.str a)) (hy : ev fr y = some (.str b)) (hs : eqP bo a b = some p)
    (kk : ∀ c, BD p c → opsWP P G N n all rest Q ((d, .bool c) :: fr) h) : opsGo P G N n all ⟨some d, .binOp bo t x y u, ty, pos, after, guard⟩ rest Q fr h := by
  cases bo <;> simp only [eqP, Option.some.injEq, reduceCtorEq] at hs <;> subst hs
  · exact g_pure hT hd (v := .bool (a == b)) (by simp only [pureOp, hx, hy, binA, strOp]) (kk _ (.of (by simp)))
  · exact g_pure hT hd (v := .bool (!(a == b))) (by simp only [pureOp, hx, hy, binA, strOp]) (kk _ (.of (by simp)))

/-- A number of another kind that is in range. -/
theorem g_conv (hT : TbOk P Tb) {s t : TypeId} {x : Operand} {si di : TInfo} {k k' : IntKind} {a : Int} (hd : Nat.blt d N = true) (hsi : Tb s = some si) (hdi : Tb t = some di) (hu : di.uk = .int k') (hx : ev fr x = some (.int k a)) (hr : inR k' a)
    (kk : opsWP P G N n all rest Q ((d, .int k' a) :: fr) h) : opsGo P G N n all ⟨some d, .convert s t x, ty, pos, after, guard⟩ rest Q fr h := by
  refine g_pure hT hd (v := .int k' a) ?_ kk
  simp [pureOp, hsi, hdi, hx, convA, hu, wrap_inR hr]

theorem g_ret {c : Call} {f : FuncId} {as : List AV} {v : AV} {h' : Heap} (hd : Nat.blt d N = true) (hc : calleeOf fr c = some (f, as)) (hk : FnOk P f) (hs : RetTo P G f as h v h')
    (k : opsWP P G N n all rest Q ((d, v) :: fr) h') : opsGo P G N n all ⟨some d, .call c, ty, pos, after, guard⟩ rest Q fr h :=
  s_ret rfl hd hc hk hs k
theorem g_retN {c : Call} {f : FuncId} {as : List AV} {v : AV} {h' : Heap} (hc : calleeOf fr c = some (f, as)) (hk : FnOk P f) (hs : RetTo P G f as h v h')
    (k : opsWP P G N n all rest Q fr h') : opsGo P G N n all ⟨none, .call c, ty, pos, after, guard⟩ rest Q fr h :=
  s_ret rfl rfl hc hk hs k
/-- A call of a function of plain values. -/
theorem g_callP {c : Call} {f : FuncId} {as : List AV} {v : AV} (hd : Nat.blt d N = true) (hc : calleeOf fr c = some (f, as)) (hk : FnOk P f) (hs : PureF P G f as v)
    (k : opsWP P G N n all rest Q ((d, v) :: fr) h) : opsGo P G N n all ⟨some d, .call c, ty, pos, after, guard⟩ rest Q fr h :=
  s_ret rfl hd hc hk (hs h) k

theorem g_store (hT : TbOk P Tb) {t : TypeId} {p x : Operand} {id off : Nat} {v : AV} {i : TInfo} {cs cs' : List AV} {ty' : TypeId} {opn : Bool} (hp : ev fr p = some (.ptr id off)) (hx : ev fr x = some v)
    (hi : Tb t = some i) (hsz : Nat.beq v.cells.length i.size = true) (hob : nth h id = some (.cells cs ty' opn true)) (hov : over cs off v.cells = some cs') (h1 : allOne v.cells = true)
    (k : opsWP P G N n all rest Q fr (setNth h id (.cells cs' ty' opn true))) : opsGo P G N n all ⟨none, .store t p x, ty, pos, after, guard⟩ rest Q fr h :=
  s_store rfl (st_store hT rfl hp hx hi hsz hob hov h1) k

/-! The operations, each by its form. -/
theorem g_ixs (hT : TbOk P Tb) {t : TypeId} {x y : Operand} {i : TInfo} {s : List UInt8} {k : IntKind} {m : Int} (hd : Nat.blt d N = true) (hx : ev fr x = some (.str s)) (hy : ev fr y = some (.int k m)) (hi : Tb t = some i) (hk : i.uk = .str) (h0 : 0 ≤ m ∧ m < s.length)
    (kk : opsWP P G N n all rest Q ((d, .int .u8 ((s.getD m.toNat 0).toNat : Int)) :: fr) h) : opsGo P G N n all ⟨some d, .index t x y, ty, pos, after, guard⟩ rest Q fr h :=
  g_step hd (st_index_str hT rfl hi hk hx hy h0) kk
theorem g_ixa (hT : TbOk P Tb) {t e : TypeId} {x y : Operand} {i ei : TInfo} {cs : List AV} {m : Nat} {k : IntKind} {j : Int} {v : AV} (hd : Nat.blt d N = true) (hx : ev fr x = some (.agg cs)) (hy : ev fr y = some (.int k j)) (hi : Tb t = some i) (hk : i.uk = .arr m e) (hei : Tb e = some ei)
    (h0 : 0 ≤ j ∧ j < m) (hv : loadAV ei cs (j.toNat * ei.size) = some v) (kk : opsWP P G N n all rest Q ((d, v) :: fr) h) : opsGo P G N n all ⟨some d, .index t x y, ty, pos, after, guard⟩ rest Q fr h :=
  g_step hd (st_index_arr hT rfl hi hk hei hx hy h0 hv) kk
theorem g_ips (hT : TbOk P Tb) {t e : TypeId} {x y : Operand} {i ei : TInfo} {id off len : Nat} {cap : ACap} {k : IntKind} {m : Int} (hd : Nat.blt d N = true) (hx : ev fr x = some (.slc id off len cap)) (hy : ev fr y = some (.int k m)) (hi : Tb t = some i) (hk : i.uk = .slc e) (hei : Tb e = some ei)
    (hc : okc cap off = true) (h0 : 0 ≤ m ∧ m < len) (kk : opsWP P G N n all rest Q ((d, .ptr id (off + m.toNat * ei.size)) :: fr) h) : opsGo P G N n all ⟨some d, .indexAddr t x y, ty, pos, after, guard⟩ rest Q fr h :=
  g_step hd (st_ixa_slc hT rfl hi hk hei hx hy hc h0) kk
theorem g_ipa (hT : TbOk P Tb) {t e : TypeId} {x y : Operand} {i ei : TInfo} {id off m : Nat} {k : IntKind} {j : Int} (hd : Nat.blt d N = true) (hx : ev fr x = some (.ptr id off)) (hy : ev fr y = some (.int k j)) (hi : Tb t = some i) (hk : i.uk = .arr m e) (hei : Tb e = some ei)
    (h0 : 0 ≤ j ∧ j < m) (hm : 2 ≤ m) (kk : opsWP P G N n all rest Q ((d, .ptr id (off + j.toNat * ei.size)) :: fr) h) : opsGo P G N n all ⟨some d, .indexAddr t x y, ty, pos, after, guard⟩ rest Q fr h :=
  g_step hd (st_ixa_arr hT rfl hi hk hei hx hy h0 hm) kk
theorem g_ipg (hT : TbOk P Tb) {t e : TypeId} {x y : Operand} {i ei : TInfo} {g off m : Nat} {k : IntKind} {j : Int} (hd : Nat.blt d N = true) (hx : ev fr x = some (.gptr g off)) (hy : ev fr y = some (.int k j)) (hi : Tb t = some i) (hk : i.uk = .arr m e) (hei : Tb e = some ei)
    (h0 : 0 ≤ j ∧ j < m) (hm : 2 ≤ m) (kk : opsWP P G N n all rest Q ((d, .gptr g (off + j.toNat * ei.size)) :: fr) h) : opsGo P G N n all ⟨some d, .indexAddr t x y, ty, pos, after, guard⟩ rest Q fr h :=
  g_step hd (st_ixa_glob hT rfl hi hk hei hx hy h0 hm) kk
theorem g_sls (hT : TbOk P Tb) {t : TypeId} {x : Operand} {lo hi : Option Operand} {i : TInfo} {s : List UInt8} {l u : Int} (hd : Nat.blt d N = true) (hx : ev fr x = some (.str s)) (hti : Tb t = some i) (hk : i.uk = .str) (hl : boundOf fr lo 0 = some l) (hu : boundOf fr hi s.length = some u)
    (hb : 0 ≤ l ∧ l ≤ u ∧ u ≤ s.length) (kk : opsWP P G N n all rest Q ((d, .str ((s.take u.toNat).drop l.toNat)) :: fr) h) : opsGo P G N n all ⟨some d, .slice t x lo hi none, ty, pos, after, guard⟩ rest Q fr h :=
  g_step hd (st_slice_str hT rfl hti hk hx hl hu hb) kk
theorem g_slc (hT : TbOk P Tb) {t e : TypeId} {x : Operand} {lo hi mx : Option Operand} {i ei : TInfo} {id off len c : Nat} {l u m : Int} (off' : Nat) (hd : Nat.blt d N = true) (hx : ev fr x = some (.slc id off len (.exact c))) (hti : Tb t = some i) (hk : i.uk = .slc e) (hei : Tb e = some ei)
    (hl : boundOf fr lo 0 = some l) (hu : boundOf fr hi len = some u) (hm : boundOf fr mx c = some m) (hxx : hmOk hi mx = true) (hb : 0 ≤ l ∧ l ≤ u ∧ u ≤ m ∧ m ≤ c) (hoff : (l = m ∧ off' = off) ∨ (l < m ∧ off' = off + l.toNat * ei.size))
    (kk : opsWP P G N n all rest Q ((d, .slc id off' (u.toNat - l.toNat) (.exact (m.toNat - l.toNat))) :: fr) h) : opsGo P G N n all ⟨some d, .slice t x lo hi mx, ty, pos, after, guard⟩ rest Q fr h :=
  g_step hd (st_slice_slc hT rfl hti hk hei hx hl hu hm hxx hb hoff) kk
theorem g_sln (hT : TbOk P Tb) {t e : TypeId} {x : Operand} {lo hi mx : Option Operand} {i ei : TInfo} {l u m : Int} (hd : Nat.blt d N = true) (hx : ev fr x = some .nils) (hti : Tb t = some i) (hk : i.uk = .slc e) (hei : Tb e = some ei)
    (hl : boundOf fr lo 0 = some l) (hu : boundOf fr hi 0 = some u) (hm : boundOf fr mx 0 = some m) (hxx : hmOk hi mx = true) (hb : 0 ≤ l ∧ l ≤ u ∧ u ≤ m ∧ m ≤ 0)
    (kk : opsWP P G N n all rest Q ((d, .nils) :: fr) h) : opsGo P G N n all ⟨some d, .slice t x lo hi mx, ty, pos, after, guard⟩ rest Q fr h :=
  g_step hd (st_slice_nil hT rfl hti hk hei hx hl hu hm hxx hb) kk
theorem g_sla (hT : TbOk P Tb) {t e : TypeId} {x : Operand} {lo hi mx : Option Operand} {i ei : TInfo} {id off c : Nat} {l u m : Int} (off' : Nat) (hd : Nat.blt d N = true) (hx : ev fr x = some (.ptr id off)) (hti : Tb t = some i) (hk : i.uk = .arr c e) (hei : Tb e = some ei)
    (hl : boundOf fr lo 0 = some l) (hu : boundOf fr hi c = some u) (hm : boundOf fr mx c = some m) (hxx : hmOk hi mx = true) (hb : 0 ≤ l ∧ l ≤ u ∧ u ≤ m ∧ m ≤ c) (hoff : (l = m ∧ off' = off) ∨ (l < m ∧ off' = off + l.toNat * ei.size))
    (kk : opsWP P G N n all rest Q ((d, .slc id off' (u.toNat - l.toNat) (.exact (m.toNat - l.toNat))) :: fr) h) : opsGo P G N n all ⟨some d, .slice t x lo hi mx, ty, pos, after, guard⟩ rest Q fr h :=
  g_step hd (st_slice_arr hT rfl hti hk hei hx hl hu hm hxx hb hoff) kk
theorem g_cat {t u : TypeId} {x y : Operand} {s r : List UInt8} (hd : Nat.blt d N = true) (hx : ev fr x = some (.str s)) (hy : ev fr y = some (.str r)) (hl : s.length + r.length ≤ 9223372036854775807)
    (kk : opsWP P G N n all rest Q ((d, .str (s ++ r)) :: fr) h) : opsGo P G N n all ⟨some d, .binOp .add t x y u, ty, pos, after, guard⟩ rest Q fr h :=
  g_step hd (st_concat rfl hx hy hl) kk
theorem g_box {t : TypeId} {x : Operand} {v : AV} (hd : Nat.blt d N = true) (hx : ev fr x = some v) (kk : opsWP P G N n all rest Q ((d, .ptr h.length 0) :: fr) (h ++ [.cells v.cells t false true])) : opsGo P G N n all ⟨some d, .box t x, ty, pos, after, guard⟩ rest Q fr h :=
  g_step hd (st_box rfl hx) kk
theorem g_alloc (hT : TbOk P Tb) {t : TypeId} {i : TInfo} {z : AV} (hd : Nat.blt d N = true) (hi : Tb t = some i) (hz : i.zero = some z) (kk : opsWP P G N n all rest Q ((d, .ptr h.length 0) :: fr) (h ++ [.cells z.cells t false true])) : opsGo P G N n all ⟨some d, .alloc t, ty, pos, after, guard⟩ rest Q fr h :=
  g_step hd (st_alloc hT rfl hi hz) kk
theorem g_build (hT : TbOk P Tb) {t : TypeId} {ps : Array (Nat × Operand)} {vs : List (Nat × AV)} {v : AV} (hd : Nat.blt d N = true) (hp : evParts fr ps.toList = some vs) (hv : buildA Tb t vs = some v) (kk : opsWP P G N n all rest Q ((d, v) :: fr) h) : opsGo P G N n all ⟨some d, .build t ps, ty, pos, after, guard⟩ rest Q fr h :=
  g_step hd (st_build hT rfl hp hv) kk
theorem g_buildS (hT : TbOk P Tb) {t e : TypeId} {len : Nat} {ps : Array (Nat × Operand)} {vs : List (Nat × AV)} {cs : List AV} {i ei : TInfo} {z : AV} (hd : Nat.blt d N = true) (hi : Tb t = some i) (hk : i.uk = .slc e) (hei : Tb e = some ei)
    (hz : ei.zero = some z) (hzl : Nat.beq z.cells.length ei.size = true) (hs : Nat.ble (len * ei.size) 16777216 = true) (hp : evParts fr ps.toList = some vs) (hv : fillA (fun j => some (j * ei.size, ei.size)) (repl len z.cells) vs = some cs)
    (kk : opsWP P G N n all rest Q ((d, .slc h.length 0 len (.exact len)) :: fr) (h ++ [.cells cs e false true])) : opsGo P G N n all ⟨some d, .buildSlice t len ps, ty, pos, after, guard⟩ rest Q fr h :=
  g_step hd (st_buildSlice hT rfl hi hk hei hz hzl hs hp hv) kk

def appTy (Tb : TypeId → Option TInfo) (t u : TypeId) : Option (TypeId × TInfo × AV) :=
  match Tb t, Tb u with
  | some i, some j => match i.uk, isSrc j.uk with
    | .slc e, true => match Tb e with
      | some ei => match ei.zero with
        | some z => match Nat.beq z.cells.length ei.size with
          | true => some (e, ei, z)
          | false => none
        | none => none
      | none => none
    | _, _ => none
  | _, _ => none
theorem appTy_ok {t u e : TypeId} {ei : TInfo} {z : AV} (h : appTy Tb t u = some (e, ei, z)) : AppTy Tb t u e ei z := by
  unfold appTy at h
  split at h
  · rename_i i j hi hj
    split at h
    · rename_i e' hk hs
      split at h
      · rename_i ei' hei
        split at h
        · rename_i z' hz
          split at h
          · rename_i hl
            simp at h; obtain ⟨rfl, rfl, rfl⟩ := h
            exact ⟨⟨i, hi, hk⟩, ⟨j, hj, hs⟩, hei, hz, hl⟩
          · simp at h
        · simp at h
      · simp at h
    · simp at h
  · simp at h

/-- An append to no slice. -/
theorem g_appN (hT : TbOk P Tb) {x y : Operand} {t u e : TypeId} {ei : TInfo} {z vy : AV} {m : Nat} {xs : List AV} (hd : Nat.blt d N = true) (hx : ev fr x = some .nils) (hy : ev fr y = some vy) (hA : appTy Tb t u = some (e, ei, z)) (hsrc : srcA Tb h ei.size vy = some (m, xs))
    (hn : 0 < m) (hb : m * ei.bytes ≤ 140737488355328 ∧ m ≤ 9223372036854775807) (kk : opsWP P G N n all rest Q ((d, .slc h.length 0 m (.opn 0 0)) :: fr) (h ++ [.cells xs e true true])) :
    opsGo P G N n all ⟨some d, .call { callee := .builtin .append, args := #[x, y], argTypes := #[t, u] }, ty, pos, after, guard⟩ rest Q fr h :=
  g_step hd (by
    have := st_append_grow (fr := fr) (G := G) (len := 0) (cap := 0) (old := []) hT (o := ⟨some d, .call { callee := .builtin .append, args := #[x, y], argTypes := #[t, u] }, ty, pos, after, guard⟩) rfl (appTy_ok hA) hx hy (.inl ⟨rfl, rfl, rfl⟩) rfl hsrc (by omega) (by rw [Nat.zero_add]; exact hb.1) (by omega)
    simpa using this) kk
theorem g_appO (hT : TbOk P Tb) {x y : Operand} {t u e : TypeId} {ei : TInfo} {z vy : AV} {id len m : Nat} {cs xs : List AV} (hd : Nat.blt d N = true) (hx : ev fr x = some (.slc id 0 len (.opn 0 0))) (hy : ev fr y = some vy) (hA : appTy Tb t u = some (e, ei, z)) (hob : nth h id = some (.cells cs e true true))
    (hsrc : srcA Tb h ei.size vy = some (m, xs)) (h1 : allOne xs = true) (hlen : len * ei.size ≤ cs.length) (hb : (len + m) * ei.bytes ≤ 140737488355328 ∧ len + m ≤ 9223372036854775807)
    (kk : opsWP P G N n all rest Q ((d, .slc h.length 0 (len + m) (.opn 0 0)) :: fr) (setNth h id .dead ++ [.cells (cs.take (len * ei.size) ++ xs) e true true])) :
    opsGo P G N n all ⟨some d, .call { callee := .builtin .append, args := #[x, y], argTypes := #[t, u] }, ty, pos, after, guard⟩ rest Q fr h :=
  g_step hd (st_append_opn hT rfl (appTy_ok hA) hx hy hob hlen hsrc h1 hb.1 hb.2) kk
theorem g_appF (hT : TbOk P Tb) {x y : Operand} {t u e : TypeId} {ei : TInfo} {z vy : AV} {id off len m cap : Nat} {cs cs' xs : List AV} {ty' : TypeId} {opn : Bool} (hd : Nat.blt d N = true) (hx : ev fr x = some (.slc id off len (.exact cap))) (hy : ev fr y = some vy) (hA : appTy Tb t u = some (e, ei, z)) (hob : nth h id = some (.cells cs ty' opn true))
    (hsrc : srcA Tb h ei.size vy = some (m, xs)) (h1 : allOne xs = true) (hn : len + m ≤ cap) (hov : over cs (off + len * ei.size) xs = some cs')
    (kk : opsWP P G N n all rest Q ((d, .slc id off (len + m) (.exact cap)) :: fr) (setNth h id (.cells cs' ty' opn true))) :
    opsGo P G N n all ⟨some d, .call { callee := .builtin .append, args := #[x, y], argTypes := #[t, u] }, ty, pos, after, guard⟩ rest Q fr h :=
  g_step hd (st_append_fit hT rfl (appTy_ok hA) hx hy hob hsrc hn hov h1) kk
theorem g_appG (hT : TbOk P Tb) {x y : Operand} {t u e : TypeId} {ei : TInfo} {z vy : AV} {id off len m cap : Nat} {old xs : List AV} (hd : Nat.blt d N = true) (hx : ev fr x = some (.slc id off len (.exact cap))) (hy : ev fr y = some vy) (hA : appTy Tb t u = some (e, ei, z)) (hold : srcA Tb h ei.size (.slc id off len (.exact cap)) = some (len, old))
    (hsrc : srcA Tb h ei.size vy = some (m, xs)) (hn : cap < len + m) (hb : (len + m) * ei.bytes ≤ 140737488355328 ∧ len + m ≤ 9223372036854775807)
    (kk : opsWP P G N n all rest Q ((d, .slc h.length 0 (len + m) (.opn 0 0)) :: fr) (h ++ [.cells (old ++ xs) e true true])) :
    opsGo P G N n all ⟨some d, .call { callee := .builtin .append, args := #[x, y], argTypes := #[t, u] }, ty, pos, after, guard⟩ rest Q fr h :=
  g_step hd (st_append_grow hT rfl (appTy_ok hA) hx hy (.inr ⟨id, off, rfl⟩) hold hsrc hn hb.1 hb.2) kk

/-- What follows is shown of a frame that knows less. -/
theorem f_less {c : Code} {fr' : Frame} (hs : Sub fr' fr) (hd : get fr' dslot = get fr dslot) (k : WP P G N n c Q fr' h) : WP P G N n c Q fr h := by
  have sub : ∀ (a b : Frame), Sub a b → ∀ i v, get a i = some v → get b i = some v := by
    intro a
    induction a with
    | nil => intro b _ i v h; simp [get] at h
    | cons x t ih =>
      intro b hs i v h
      obtain ⟨j, u⟩ := x
      simp only [get] at h
      by_cases e : j = i
      · subst e; simp at h; subst h; exact hs.1
      · rw [beq_false_of_ne e, cond_false] at h; exact ih b hs.2 i v h
  intro μ₀ κ₀ h₀ w₀ μ κ a w hn hx hh hf
  exact k μ₀ κ₀ h₀ w₀ μ κ a w hn hx hh (hf.sub (fun i v hv _ => sub _ _ hs i v hv) hd)

theorem sub_get : ∀ (a b : Frame), Sub a b → ∀ i v, get a i = some v → get b i = some v := by
  intro a
  induction a with
  | nil => intro b _ i v h; simp [get] at h
  | cons x t ih =>
    intro b hs i v h
    obtain ⟨j, u⟩ := x
    simp only [get] at h
    by_cases e : j = i
    · subst e; simp at h; subst h; exact hs.1
    · rw [beq_false_of_ne e, cond_false] at h; exact ih b hs.2 i v h

/-- A loop, by a family of frames and heaps: what each frame of the family knows, the true frame knows. -/
theorem f_loopF {α : Type} {c : Code} (F : α → Frame) (H : α → Heap) (I : α → Prop) (m : α → Nat) (x₀ : α) (hI : I x₀) (hF : Sub (F x₀) fr) (hd : ∀ x, get (F x) dslot = none) (hH : H x₀ = h)
    (hd0 : get fr dslot = none)
    (round : ∀ x, I x → WP P G N n c (loopQ (fun y fr h => I y ∧ Sub (F y) fr ∧ get fr dslot = none ∧ H y = h) m x Q) (F x) (H x)) : WP P G N n (.loop c) Q fr h := by
  refine f_loop (fun y fr h => I y ∧ Sub (F y) fr ∧ get fr dslot = none ∧ H y = h) m x₀ ⟨hI, hF, hd0, hH⟩ ?_
  rintro x fr h ⟨hi, hs, hds, rfl⟩
  exact f_less hs (by rw [hd x, hds]) (round x hi)

theorem loop_f {α : Type} {F : α → Frame} {H : α → Heap} {I : α → Prop} {m : α → Nat} {x : α} (y : α) (hI : I y) (hm : m y < m x) (hs : Sub (F y) fr) (hd : get fr dslot = none) (hH : H y = h) :
    loopQ (fun y fr h => I y ∧ Sub (F y) fr ∧ get fr dslot = none ∧ H y = h) m x Q .normal fr h := ⟨y, ⟨hI, hs, hd, hH⟩, hm⟩

/-- The end of a body. -/
theorem body_ret {rs : List ResultVar} {R : AEnd → Heap → Prop} {v : AV} (hd : get fr dslot = none) (hv : resV Tb G rs fr h = some v) (k : R (.ret v) h) : bodyQ Tb G rs R .ret fr h := ⟨hd, v, hv, k⟩
theorem body_end {rs : List ResultVar} {R : AEnd → Heap → Prop} {v : AV} (hd : get fr dslot = none) (hv : resV Tb G rs fr h = some v) (k : R (.ret v) h) : bodyQ Tb G rs R .normal fr h := ⟨hd, v, hv, k⟩

/-- The body of a function of plain values. -/
theorem pure_body (hT : TbOk P Tb) {f : FuncId} {fn : Func} {c : Code} {as : List AV} {v : AV} {rs : List ResultVar} (hf : P.funcs[f]? = some fn) (hb : fn.body = some c) (hn : fn.ntmps = N) (hr : fn.results.toList = rs) (hN : Nat.ble as.length N = true) (hS : Nat.ble N dslot = true)
    (hl : AVs.le 0 as) (hv : v.le 0) (k : WP P G N 0 c (bodyQ Tb G rs (fun e _ => e = .ret v)) (initF 0 as) []) : PureF P G f as v :=
  PureF.of (call_body hT hf hb hn hr hN hS k) hl hv
end
end Go.Fm
