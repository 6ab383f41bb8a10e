/- FM, a program logic over the given model with abstract values and an abstract heap: general lemmas. No statement is closed in this text. -/
import Derived.Test.YtcimapbdkmdcpaaGreatDoorFmZc
set_option linter.unusedVariables false
set_option linter.unusedSimpArgs false
namespace Go.Fm
open Go

/-! Lists of data as cells: so many cells each. -/
structure Enc (α : Type) (k : Nat) where
  cells : α → List AV
  len : ∀ a, (cells a).length = k
def Enc.of {α : Type} {k : Nat} (E : Enc α k) (l : List α) : List AV := l.flatMap E.cells

section
variable {α : Type} {k : Nat} (E : Enc α k)
theorem Enc.of_nil : E.of [] = [] := rfl
theorem Enc.of_cons (a : α) (t : List α) : E.of (a :: t) = E.cells a ++ E.of t := rfl
theorem Enc.of_append (l m : List α) : E.of (l ++ m) = E.of l ++ E.of m := by simp [Enc.of]
theorem Enc.of_one (a : α) : E.of [a] = E.cells a := by simp [Enc.of]
theorem Enc.of_length (l : List α) : (E.of l).length = l.length * k := by
  induction l with
  | nil => simp [Enc.of]
  | cons c t ih => rw [E.of_cons, List.length_append, E.len, ih, List.length_cons, Nat.succ_mul, Nat.add_comm]
theorem Enc.of_drop (l : List α) (i : Nat) : (E.of l).drop (i * k) = E.of (l.drop i) := by
  induction l generalizing i with
  | nil => simp [Enc.of]
  | cons c t ih =>
    cases i with
    | zero => simp
    | succ i =>
      rw [E.of_cons, show (i + 1) * k = (E.cells c).length + i * k by rw [E.len, Nat.succ_mul, Nat.add_comm], ← List.drop_drop, List.drop_left, List.drop_succ_cons, ih i]
theorem Enc.of_take (l : List α) (i : Nat) : (E.of l).take (i * k) = E.of (l.take i) := by
  induction l generalizing i with
  | nil => simp [Enc.of]
  | cons c t ih =>
    cases i with
    | zero => simp [Enc.of]
    | succ i =>
      rw [E.of_cons, show (i + 1) * k = (E.cells c).length + i * k by rw [E.len, Nat.succ_mul, Nat.add_comm], List.take_append, List.take_of_length_le (by omega), List.take_succ_cons, E.of_cons, Nat.add_sub_cancel_left, ih i]
theorem get_lt {l : List α} {i : Nat} {a : α} (h : l[i]? = some a) : i < l.length := (List.getElem?_eq_some_iff.1 h).1
theorem drop_at {l : List α} {i : Nat} {a : α} (h : l[i]? = some a) : l.drop i = a :: l.drop (i + 1) := by
  have hi := get_lt h
  rw [List.drop_eq_getElem_cons hi]
  congr 1
  exact Option.some.inj (by rw [← h, List.getElem?_eq_getElem hi])
theorem take_at {l : List α} {i : Nat} {a : α} (h : l[i]? = some a) : l.take (i + 1) = l.take i ++ [a] := by
  have hi := get_lt h
  rw [List.take_succ_eq_append_getElem hi]
  congr 2
  exact Option.some.inj (by rw [← h, List.getElem?_eq_getElem hi])
theorem split_at {l : List α} {i : Nat} {a : α} (h : l[i]? = some a) : l = l.take i ++ a :: l.drop (i + 1) := by
  rw [← drop_at h, List.take_append_drop]
theorem set_at {l : List α} {i : Nat} {a : α} (h : l[i]? = some a) (d : α) : l.set i d = l.take i ++ d :: l.drop (i + 1) := by
  rw [List.set_eq_take_append_cons_drop, if_pos (get_lt h)]
theorem Enc.of_at {l : List α} {i j : Nat} {a : α} (h : l[i]? = some a) (hj : j < k) : (E.of l)[i * k + j]? = (E.cells a)[j]? := by
  rw [← List.getElem?_drop, E.of_drop, drop_at h, E.of_cons, List.getElem?_append_left (by rw [E.len]; exact hj)]

theorem takeN_at {l : List AV} : ∀ {n : Nat} {vs : List AV}, (∀ j, j < n → l[j]? = vs[j]?) → vs.length = n → takeN n l = some vs := by
  intro n vs h hl
  have hn : n ≤ l.length := by
    rcases Nat.lt_or_ge l.length n with q | q
    · have := h l.length q
      rw [List.getElem?_eq_none (Nat.le_refl _), List.getElem?_eq_getElem (by omega)] at this
      simp at this
    · exact q
  rw [takeN_of_le hn]
  congr 1
  apply List.ext_getElem?
  intro j
  rw [List.getElem?_take]
  split
  · rename_i q; exact h j q
  · rename_i q; rw [List.getElem?_eq_none (by omega)]

/-- A part of an element is read. -/
theorem Enc.load_sub {l : List α} {i off j m : Nat} {a : α} {inf : TInfo} {cs : List AV} (h : l[i]? = some a) (hk : inf.uk.agg = true) (hs : inf.size = m) (ho : off = i * k + j) (hm : j + m ≤ k) (hc : takeN m ((E.cells a).drop j) = some cs) : loadAV inf (E.of l) off = some (.agg cs) := by
  subst ho hs
  obtain ⟨e1, e2, e3⟩ := takeN_some hc
  unfold loadAV
  rw [hk]
  have : takeN inf.size ((E.of l).drop (i * k + j)) = some cs := takeN_at (fun x hx => by
    rw [List.getElem?_drop, Nat.add_assoc, E.of_at h (by omega), e1, List.getElem?_take, if_pos hx, List.getElem?_drop]) e2
  simp only [this]
/-- One element is read. -/
theorem Enc.load_row {l : List α} {i off : Nat} {a : α} {inf : TInfo} (h : l[i]? = some a) (hk : inf.uk.agg = true) (hs : inf.size = k) (ho : off = i * k) : loadAV inf (E.of l) off = some (.agg (E.cells a)) :=
  E.load_sub (j := 0) h hk hs ho (by omega) (by rw [List.drop_zero, takeN_of_le (by rw [E.len]; exact Nat.le_refl _), List.take_of_length_le (by rw [E.len]; exact Nat.le_refl _)])
/-- One cell is read. -/
theorem Enc.load_cell {l : List α} {i off j : Nat} {a : α} {v : AV} {inf : TInfo} (h : l[i]? = some a) (hk : inf.uk.agg = false) (ho : off = i * k + j) (hj : j < k) (hc : nth (E.cells a) j = some v) : loadAV inf (E.of l) off = some v := by
  unfold loadAV
  rw [hk]
  rw [nth_eq] at hc
  simp only [nth_eq, ho, E.of_at h hj, hc]

theorem over_app : ∀ {cs ds vs m : List AV} {j : Nat}, over cs j vs = some m → over (cs ++ ds) j vs = some (m ++ ds)
  | [], ds, vs, m, j, h => by
    cases j with
    | zero => cases vs with
      | nil => simp [over] at h; subst h; cases ds <;> simp [over]
      | cons v t => simp [over] at h
    | succ j => simp [over] at h
  | c :: cs, ds, vs, m, j, h => by
    cases j with
    | zero => cases vs with
      | nil => simp [over] at h; subst h; simp [over]
      | cons v t =>
        simp only [over] at h
        cases e : over cs 0 t with
        | none => simp [e] at h
        | some x => simp [e] at h; subst h; simp [over, over_app e]
    | succ j =>
      simp only [over] at h
      cases e : over cs j vs with
      | none => simp [e] at h
      | some x => simp [e] at h; subst h; simp [over, over_app e]
theorem over_behind : ∀ {bs cs vs m : List AV} {j : Nat}, over cs j vs = some m → over (bs ++ cs) (bs.length + j) vs = some (bs ++ m)
  | [], cs, vs, m, j, h => by simpa using h
  | b :: bs, cs, vs, m, j, h => by
    have := over_behind (bs := bs) h
    rw [List.length_cons, show bs.length + 1 + j = (bs.length + j) + 1 by omega, List.cons_append]
    simp only [over, this, List.cons_append]
/-- A part of an element is written. -/
theorem Enc.over_sub {l : List α} {i off j : Nat} {a b : α} {vs : List AV} (h : l[i]? = some a) (ho : off = i * k + j) (hc : over (E.cells a) j vs = some (E.cells b)) : over (E.of l) off vs = some (E.of (l.set i b)) := by
  subst ho
  rw [set_at h]
  conv => lhs; rw [split_at h]
  rw [E.of_append, E.of_append, E.of_cons, E.of_cons]
  have hl : (E.of (l.take i)).length = i * k := by rw [E.of_length, List.length_take, Nat.min_eq_left (Nat.le_of_lt (get_lt h))]
  have := over_behind (bs := E.of (l.take i)) (over_app (ds := E.of (l.drop (i + 1))) hc)
  rw [hl] at this
  exact this

/-- They lead nowhere. -/
def Enc.Gr : Prop := ∀ a, AVs.gr (E.cells a) = true
theorem AVs.gr_app : ∀ {l m : List AV}, AVs.gr l = true → AVs.gr m = true → AVs.gr (l ++ m) = true
  | [], m, _, h => h
  | v :: t, m, h, h2 => by
    simp only [AVs.gr] at h
    cases e : v.gr with
    | false => simp [e] at h
    | true => simp only [e, cond_true] at h; simp only [List.cons_append, AVs.gr, e, cond_true]; exact AVs.gr_app h h2
variable {E}
theorem Enc.Gr.of (h : E.Gr) (l : List α) : AVs.gr (E.of l) = true := by
  induction l with
  | nil => rfl
  | cons a t ih => rw [E.of_cons]; exact AVs.gr_app (h a) ih
mutual
theorem AV.gr_ren (r : Nat → Nat) : ∀ {v : AV}, v.gr = true → v.ren r = v
  | .bool _, _ | .int _ _, _ | .str _, _ | .gptr _ _, _ | .gslc _ _ _ _, _ | .nilp, _ | .nils, _ | .nilm, _ | .nilf, _ | .nili, _ => rfl
  | .ptr _ _, h => by simp [AV.gr] at h
  | .slc _ _ _ _, h => by simp [AV.gr] at h
  | .mp _, h => by simp [AV.gr] at h
  | .fn _ a b, h => by
    simp only [AV.gr] at h
    cases e : AVs.gr a with
    | false => simp [e] at h
    | true => simp only [e, cond_true] at h; simp only [AV.ren, AVs.gr_ren r e, AVs.gr_ren r h]
  | .ifc _ v, h => by simp only [AV.ren, AV.gr_ren r (v := v) (by simpa [AV.gr] using h)]
  | .agg cs, h => by simp only [AV.ren, AVs.gr_ren r (l := cs) (by simpa [AV.gr] using h)]
  | .tup cs, h => by simp only [AV.ren, AVs.gr_ren r (l := cs) (by simpa [AV.gr] using h)]
theorem AVs.gr_ren (r : Nat → Nat) : ∀ {l : List AV}, AVs.gr l = true → AVs.ren r l = l
  | [], _ => rfl
  | v :: t, h => by
    simp only [AVs.gr] at h
    cases e : v.gr with
    | false => simp [e] at h
    | true => simp only [e, cond_true] at h; simp only [AVs.ren, AV.gr_ren r e, AVs.gr_ren r h]
end
theorem Enc.Gr.ren (h : E.Gr) (r : Nat → Nat) (l : List α) : AVs.ren r (E.of l) = E.of l := AVs.gr_ren r (h.of l)
theorem Enc.Gr.le (h : E.Gr) (m : Nat) (l : List α) : AVs.le m (E.of l) := AVs.le_mono (Nat.zero_le _) _ (AVs.gr_ok (h.of l))
end

/-! Steps at places that are no numerals. -/
section
variable {P : Program} {Tb : TypeId → Option TInfo} {G : Nat → Nat → Option AV} {N n : Nat} {fr : Frame} {h h0 : Heap} {all : Array Oper} {rest : List Oper} {R : Frame → Heap → Prop} {acc : List Kd} {v : AV}
  {d : Nat} {ty : TypeId} {pos : String} {after : Array Edge} {guard : Option (Nat × Bool)}
theorem d_ips (hT : TbOk P Tb) {t e : TypeId} {x y : Operand} {i ei : TInfo} {id off len : Nat} {cap : ACap} {k : IntKind} {m : Int} (hg : gw all (restr fr (looksT all ⟨some d, .indexAddr t x y, ty, pos, after, guard⟩)) ⟨some d, .indexAddr t x y, ty, pos, after, guard⟩ = some true) (hd : Nat.blt d N = true)
    (hx : ev (restr fr (looksT all ⟨some d, .indexAddr t x y, ty, pos, after, guard⟩)) x = some (.slc id off len cap)) (hy : ev (restr fr (looksT all ⟨some d, .indexAddr t x y, ty, pos, after, guard⟩)) y = some (.int k m)) (hi : Tb t = some i) (hk : i.uk = .slc e) (hei : Tb e = some ei)
    (hc : okc cap off = true) (h0' : 0 ≤ m ∧ m < len) (kk : DrK P G N all h0 rest (.q false :: acc) R ((d, .ptr id (off + m.toNat * ei.size)) :: fr) h) : DrK P G N all h0 (⟨some d, .indexAddr t x y, ty, pos, after, guard⟩ :: rest) acc R fr h :=
  d_any hg hd (fun h => st_ixa_slc hT rfl hi hk hei hx hy hc h0') kk

/-! Calls that answer a bool: it is left open. -/
theorem d_callB {c : Call} {f : FuncId} {as : List AV} {b : Bool} (hg : gw all (restr fr (looksT all ⟨some d, .call c, ty, pos, after, guard⟩)) ⟨some d, .call c, ty, pos, after, guard⟩ = some true) (hd : Nat.blt d N = true)
    (hc : calleeOf (restr fr (looksT all ⟨some d, .call c, ty, pos, after, guard⟩)) c = some (f, as)) (hk : FnOk P f) (hs : PureF P G f as (.bool b)) (kk : ∀ c', BD (b = true) c' → DrK P G N all h0 rest (.q false :: acc) R ((d, .bool c') :: fr) h) : DrK P G N all h0 (⟨some d, .call c, ty, pos, after, guard⟩ :: rest) acc R fr h :=
  d_callP hg hd hc hk hs (kk _ (.of Iff.rfl))
theorem d_callRB {c : Call} {f : FuncId} {as : List AV} {b : Bool} (hg : gw all (restr fr (looksT all ⟨some d, .call c, ty, pos, after, guard⟩)) ⟨some d, .call c, ty, pos, after, guard⟩ = some true) (hd : Nat.blt d N = true)
    (hc : calleeOf (restr fr (looksT all ⟨some d, .call c, ty, pos, after, guard⟩)) c = some (f, as)) (hk : FnOk P f) (hs : ∀ g, RetTo P G f as (h0 ++ g) (.bool b) (h0 ++ g)) (kk : ∀ c', BD (b = true) c' → DrK P G N all h0 rest (.q true :: acc) R ((d, .bool c') :: fr) h) : DrK P G N all h0 (⟨some d, .call c, ty, pos, after, guard⟩ :: rest) acc R fr h :=
  d_callR hg hd hc hk hs (kk _ (.of Iff.rfl))
theorem g_callB {n : Nat} {Q : AExit → Frame → Heap → Prop} {c : Call} {f : FuncId} {as : List AV} {b : Bool} (hd : Nat.blt d N = true) (hc : calleeOf fr c = some (f, as)) (hk : FnOk P f) (hs : PureF P G f as (.bool b))
    (k : ∀ c', BD (b = true) c' → opsWP P G N n all rest Q ((d, .bool c') :: fr) h) : opsGo P G N n all ⟨some d, .call c, ty, pos, after, guard⟩ rest Q fr h :=
  g_callP hd hc hk hs (k _ (.of Iff.rfl))
theorem g_retB {n : Nat} {Q : AExit → Frame → Heap → Prop} {c : Call} {f : FuncId} {as : List AV} {b : Bool} {h' : Heap} (hd : Nat.blt d N = true) (hc : calleeOf fr c = some (f, as)) (hk : FnOk P f) (hs : RetTo P G f as h (.bool b) h')
    (k : ∀ c', BD (b = true) c' → opsWP P G N n all rest Q ((d, .bool c') :: fr) h') : opsGo P G N n all ⟨some d, .call c, ty, pos, after, guard⟩ rest Q fr h :=
  g_ret hd hc hk hs (k _ (.of Iff.rfl))
end
end Go.Fm
