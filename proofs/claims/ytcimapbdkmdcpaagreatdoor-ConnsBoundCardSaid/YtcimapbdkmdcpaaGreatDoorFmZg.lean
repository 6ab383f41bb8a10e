/- FM, a program logic over the given model with abstract values and an abstract heap: general lemmas. No statement is closed in this text. -/
import Derived.Test.YtcimapbdkmdcpaaGreatDoorFmZf
set_option linter.unusedVariables false
set_option linter.unusedSimpArgs false
namespace Go.Fm
open Go

/-! Memory that is only read. -/
/-- From a place on lie the cells of a list. -/
def GIs {α : Type} {k : Nat} (E : Enc α k) (f : Nat → Option AV) (off : Nat) (l : List α) : Prop := ∀ i a, l[i]? = some a → ∀ j v, (E.cells a)[j]? = some v → f (off + i * k + j) = some v
theorem takeG_of : ∀ {n : Nat} {f : Nat → Option AV} {o : Nat} {l : List AV}, l.length = n → (∀ j v, l[j]? = some v → f (o + j) = some v) → takeG n f o = some l
  | 0, f, o, l, h, _ => by
    have : l = [] := List.length_eq_zero_iff.1 h
    subst this; rfl
  | n + 1, f, o, [], h, _ => by simp at h
  | n + 1, f, o, v :: t, h, hf => by
    have h0 := hf 0 v rfl
    have := takeG_of (n := n) (f := f) (o := o + 1) (l := t) (by simpa using h) (fun j u hj => by
      have := hf (j + 1) u (by simpa using hj)
      rw [show o + 1 + j = o + (j + 1) by omega]; exact this)
    simp only [takeG, this]
    simp only [Nat.add_zero] at h0
    rw [h0]
section
variable {α : Type} {k : Nat} {E : Enc α k} {f : Nat → Option AV} {off : Nat} {l : List α}
theorem GIs.load_sub (hg : GIs E f off l) {i j m o : Nat} {a : α} {inf : TInfo} {cs : List AV} (h : l[i]? = some a) (hk : inf.uk.agg = true) (hs : inf.size = m) (ho : o = off + i * k + j) (hc : takeN m ((E.cells a).drop j) = some cs) : loadG inf f o = some (.agg cs) := by
  subst ho hs
  obtain ⟨e1, e2, e3⟩ := takeN_some hc
  unfold loadG
  rw [hk]
  have : takeG inf.size f (off + i * k + j) = some cs := takeG_of e2 (fun x v hv => by
    rw [e1, List.getElem?_take] at hv
    split at hv
    · rw [List.getElem?_drop] at hv
      rw [Nat.add_assoc]
      exact hg i a h (j + x) v hv
    · simp at hv)
  simp only [this]
theorem GIs.load_row (hg : GIs E f off l) {i o : Nat} {a : α} {inf : TInfo} (h : l[i]? = some a) (hk : inf.uk.agg = true) (hs : inf.size = k) (ho : o = off + i * k) : loadG inf f o = some (.agg (E.cells a)) :=
  hg.load_sub (j := 0) h hk hs ho (by rw [List.drop_zero, takeN_of_le (by rw [E.len]; exact Nat.le_refl _), List.take_of_length_le (by rw [E.len]; exact Nat.le_refl _)])
theorem GIs.load_cell (hg : GIs E f off l) {i j o : Nat} {a : α} {v : AV} {inf : TInfo} (h : l[i]? = some a) (hk : inf.uk.agg = false) (ho : o = off + i * k + j) (hc : nth (E.cells a) j = some v) : loadG inf f o = some v := by
  subst ho
  unfold loadG
  rw [hk]
  rw [nth_eq] at hc
  exact hg i a h j v hc
theorem GIs.drop (hg : GIs E f off l) (i : Nat) : GIs E f (off + i * k) (l.drop i) := by
  intro x a h j v hv
  rw [List.getElem?_drop] at h
  have := hg (i + x) a h j v hv
  rw [Nat.add_mul] at this
  rw [show off + i * k + x * k + j = off + (i * k + x * k) + j by omega]; exact this
theorem GIs.take (hg : GIs E f off l) (i : Nat) : GIs E f off (l.take i) := by
  intro x a h j v hv
  rw [List.getElem?_take] at h
  split at h
  · exact hg x a h j v hv
  · simp at h
end

/-- Bytes that came in. -/
def u8E : Enc UInt8 1 := ⟨fun b => [.int .u8 (b.toNat : Int)], fun _ => rfl⟩
/-- A slice that came in: not there, or there. -/
inductive InSl {α : Type} {k : Nat} (E : Enc α k) (G : Nat → Nat → Option AV) : List α → AV → Prop
  | nil : InSl E G [] .nils
  | at (g off cap : Nat) (l : List α) (h : GIs E (G g) off l) (hc : l.length ≤ cap) : InSl E G l (.gslc g off l.length cap)
def lenW : AV → Option Nat
  | .nils => some 0
  | .slc _ _ n _ => some n
  | .gslc _ _ n _ => some n
  | _ => none
theorem InSl.len {α : Type} {k : Nat} {E : Enc α k} {G : Nat → Nat → Option AV} {l : List α} {v : AV} (h : InSl E G l v) : lenW v = some l.length := by cases h <;> rfl
theorem InSl.gr {α : Type} {k : Nat} {E : Enc α k} {G : Nat → Nat → Option AV} {l : List α} {v : AV} (h : InSl E G l v) : v.gr = true := by cases h <;> rfl
theorem InSl.ren {α : Type} {k : Nat} {E : Enc α k} {G : Nat → Nat → Option AV} {l : List α} {v : AV} (h : InSl E G l v) (s : Nat → Nat) : v.ren s = v := AV.gr_ren s h.gr
theorem InSl.le {α : Type} {k : Nat} {E : Enc α k} {G : Nat → Nat → Option AV} {l : List α} {v : AV} (h : InSl E G l v) (m : Nat) : v.le m := AV.le_mono (Nat.zero_le _) _ (AV.gr_ok h.gr)
theorem InSl.getr {α : Type} {k : Nat} {E : Enc α k} {G : Nat → Nat → Option AV} {l : List α} {v : AV} (h : InSl E G l v) {fr : Frame} {i : Nat} {s : Nat → Nat} (e : get fr i = some v) : get fr i = some (v.ren s) := by rw [h.ren]; exact e
/-- An element that is there: the slice is. -/
theorem InSl.get {α : Type} {k : Nat} {E : Enc α k} {G : Nat → Nat → Option AV} {l : List α} {v : AV} (h : InSl E G l v) {i : Nat} {a : α} (hi : l[i]? = some a) : ∃ g off cap, v = .gslc g off l.length cap ∧ GIs E (G g) off l := by
  cases h with
  | nil => simp at hi
  | «at» g off cap l h hc => exact ⟨g, off, cap, rfl, h⟩

/-- Held back from the driver. -/
structure Hold (p : Prop) : Prop where
  out : p

section
variable {P : Program} {Tb : TypeId → Option TInfo} {G : Nat → Nat → Option AV} {N n : Nat} {fr fs : Frame} {h h0 : Heap} {all : Array Oper} {rest : List Oper} {Q : AExit → Frame → Heap → Prop} {R : Frame → Heap → Prop} {acc : List Kd} {v : AV}
  {d : Nat} {ty : TypeId} {pos : String} {after : Array Edge} {guard : Option (Nat × Bool)}
theorem st_loadGA (hT : TbOk P Tb) {t : TypeId} {p : Operand} {i : TInfo} {g off : Nat} (hp : ev fs p = some (.gptr g off)) (hi : Tb t = some i) (hv : loadG i (G g) off = some v) (h : Heap) :
    StepTo P G ⟨some d, .load t p, ty, pos, after, guard⟩ fs h v h :=
  pure_step hT (Tb := Tb) (by simp only [pureOp, hp, hi, hv])
theorem g_loadG (hT : TbOk P Tb) {t : TypeId} {p : Operand} {i : TInfo} {g off : Nat} (hd : Nat.blt d N = true) (hp : ev fr p = some (.gptr g off)) (hi : Tb t = some i) (hv : loadG i (G g) off = some v)
    (kk : opsWP P G N n all rest Q ((d, v) :: fr) h) : opsGo P G N n all ⟨some d, .load t p, ty, pos, after, guard⟩ rest Q fr h :=
  g_step hd (st_loadGA hT hp hi hv h) kk
theorem d_loadG (hT : TbOk P Tb) {t : TypeId} {p : Operand} {i : TInfo} {g off : Nat} (hg : gw all (restr fr (looksT all ⟨some d, .load t p, ty, pos, after, guard⟩)) ⟨some d, .load t p, ty, pos, after, guard⟩ = some true) (hd : Nat.blt d N = true)
    (hp : ev (restr fr (looksT all ⟨some d, .load t p, ty, pos, after, guard⟩)) p = some (.gptr g off)) (hi : Tb t = some i) (hv : loadG i (G g) off = some v)
    (kk : DrK P G N all h0 rest (.q false :: acc) R ((d, v) :: fr) h) : DrK P G N all h0 (⟨some d, .load t p, ty, pos, after, guard⟩ :: rest) acc R fr h :=
  d_any hg hd (fun h => st_loadGA hT hp hi hv h) kk
theorem g_ixg (hT : TbOk P Tb) {t e : TypeId} {x y : Operand} {i ei : TInfo} {g off len cap : Nat} {k : IntKind} {m : Int} (hd : Nat.blt d N = true) (hx : ev fr x = some (.gslc g off len cap)) (hy : ev fr y = some (.int k m)) (hi : Tb t = some i) (hk : i.uk = .slc e) (hei : Tb e = some ei) (h0 : 0 ≤ m ∧ m < len)
    (kk : opsWP P G N n all rest Q ((d, .gptr g (off + m.toNat * ei.size)) :: fr) h) : opsGo P G N n all ⟨some d, .indexAddr t x y, ty, pos, after, guard⟩ rest Q fr h :=
  g_step hd (st_ixa_gslc hT rfl hi hk hei hx hy h0) kk
theorem d_ixg (hT : TbOk P Tb) {t e : TypeId} {x y : Operand} {i ei : TInfo} {g off len cap : Nat} {k : IntKind} {m : Int} (hg : gw all (restr fr (looksT all ⟨some d, .indexAddr t x y, ty, pos, after, guard⟩)) ⟨some d, .indexAddr t x y, ty, pos, after, guard⟩ = some true) (hd : Nat.blt d N = true)
    (hx : ev (restr fr (looksT all ⟨some d, .indexAddr t x y, ty, pos, after, guard⟩)) x = some (.gslc g off len cap)) (hy : ev (restr fr (looksT all ⟨some d, .indexAddr t x y, ty, pos, after, guard⟩)) y = some (.int k m)) (hi : Tb t = some i) (hk : i.uk = .slc e) (hei : Tb e = some ei) (h0' : 0 ≤ m ∧ m < len)
    (kk : DrK P G N all h0 rest (.q false :: acc) R ((d, .gptr g (off + m.toNat * ei.size)) :: fr) h) : DrK P G N all h0 (⟨some d, .indexAddr t x y, ty, pos, after, guard⟩ :: rest) acc R fr h :=
  d_any hg hd (fun h => st_ixa_gslc hT rfl hi hk hei hx hy h0') kk
theorem g_slg (off' m' c' : Nat) (hT : TbOk P Tb) {t e : TypeId} {x : Operand} {lo hi mx : Option Operand} {i ei : TInfo} {g off len c : Nat} {l u m : Int} (hd : Nat.blt d N = true) (hx : ev fr x = some (.gslc g off len c)) (hti : Tb t = some i) (hk : i.uk = .slc e) (hei : Tb e = some ei)
    (hl : boundOf fr lo 0 = some l) (hu : boundOf fr hi len = some u) (hm : boundOf fr mx c = some m) (hxx : hmOk hi mx = true) (hb : 0 ≤ l ∧ l ≤ u ∧ u ≤ m ∧ m ≤ c) (hoff : (l = m ∧ off' = off) ∨ (l < m ∧ off' = off + l.toNat * ei.size)) (hm' : u.toNat - l.toNat = m') (hc' : m.toNat - l.toNat = c')
    (kk : opsWP P G N n all rest Q ((d, .gslc g off' m' c') :: fr) h) : opsGo P G N n all ⟨some d, .slice t x lo hi mx, ty, pos, after, guard⟩ rest Q fr h := by
  subst hm' hc'; exact g_step hd (st_slice_gslc hT rfl hti hk hei hx hl hu hm hxx hb hoff) kk
theorem pure_lenW {x : Operand} {t e : TypeId} {i : TInfo} {v : AV} {m : Nat} (hx : ev fs x = some v) (hi : Tb t = some i) (hk : i.uk = .slc e) (hl : lenW v = some m) (h : Heap) :
    pureOp Tb G fs h (.call { callee := .builtin .len, args := #[x], argTypes := #[t] }) = some (.int .i64 m) := by
  cases v <;> simp [lenW] at hl <;> subst hl <;> simp [pureOp, hx, hi, hk]
theorem g_len (hT : TbOk P Tb) {x : Operand} {t e : TypeId} {i : TInfo} {v : AV} {m : Nat} (hd : Nat.blt d N = true) (hx : ev fr x = some v) (hi : Tb t = some i) (hk : i.uk = .slc e) (hl : lenW v = some m)
    (kk : opsWP P G N n all rest Q ((d, .int .i64 m) :: fr) h) : opsGo P G N n all ⟨some d, .call { callee := .builtin .len, args := #[x], argTypes := #[t] }, ty, pos, after, guard⟩ rest Q fr h :=
  g_pure hT hd (pure_lenW hx hi hk hl h) kk
theorem d_len (hT : TbOk P Tb) {x : Operand} {t e : TypeId} {i : TInfo} {v : AV} {m : Nat} (hg : gw all (restr fr (looksT all ⟨some d, .call { callee := .builtin .len, args := #[x], argTypes := #[t] }, ty, pos, after, guard⟩)) ⟨some d, .call { callee := .builtin .len, args := #[x], argTypes := #[t] }, ty, pos, after, guard⟩ = some true) (hd : Nat.blt d N = true)
    (hx : ev (restr fr (looksT all ⟨some d, .call { callee := .builtin .len, args := #[x], argTypes := #[t] }, ty, pos, after, guard⟩)) x = some v) (hi : Tb t = some i) (hk : i.uk = .slc e) (hl : lenW v = some m)
    (kk : DrK P G N all h0 rest (.q false :: acc) R ((d, .int .i64 m) :: fr) h) : DrK P G N all h0 (⟨some d, .call { callee := .builtin .len, args := #[x], argTypes := #[t] }, ty, pos, after, guard⟩ :: rest) acc R fr h :=
  d_any hg hd (fun h => pure_step hT (pure_lenW hx hi hk hl h)) kk
theorem g_callX {c : Call} {f : FuncId} {as : List AV} {R : AEnd → Heap → Prop} (hd : Nat.blt d N = true) (hc : calleeOf fr c = some (f, as)) (hk : FnOk P f) (hs : CallTo P G f as h R)
    (k : ∀ e h', R e h' → ∃ v, e = .ret v ∧ opsWP P G N n all rest Q ((d, v) :: fr) h') : opsGo P G N n all ⟨some d, .call c, ty, pos, after, guard⟩ rest Q fr h := by
  refine s_call rfl hd hc hk hs fun e h' r => ?_
  obtain ⟨v, rfl, q⟩ := k e h' r
  exact q
/-- A rest whose value is known under another name. -/
theorem g_remE (r : Int) (hT : TbOk P Tb) {t u : TypeId} {x y : Operand} {k k' : IntKind} {a b : Int} (hd : Nat.blt d N = true) (hx : ev fr x = some (.int k a)) (hy : ev fr y = some (.int k' b)) (hk : kindEq k k' = true) (h0 : 0 ≤ a ∧ 0 < b) (hr : a % b = r)
    (kk : opsWP P G N n all rest Q ((d, .int k r) :: fr) h) : opsGo P G N n all ⟨some d, .binOp .rem t x y u, ty, pos, after, guard⟩ rest Q fr h := by
  subst hr; exact g_rem hT hd hx hy hk h0 kk
/-- What stands behind a choice is shown once. -/
theorem f_cutC {α : Type} (t : Nat) {a a' b : Code} (F : α → Frame) (H : α → Heap) (I : α → Prop) (ha : WP P G N n (.cond (.tmp t) a a') (cutQ n F H I Q) fr h) (hb : ∀ y, I y → WP P G N n b Q (F y) (H y)) : WP P G N n (.seq (.cond (.tmp t) a a') b) Q fr h := f_cutV F H I ha hb
theorem f_cutB {α : Type} (t : Nat) {a b : Code} (F : α → Frame) (H : α → Heap) (I : α → Prop) (ha : WP P G N n (.block t a) (cutQ n F H I Q) fr h) (hb : ∀ y, I y → WP P G N n b Q (F y) (H y)) : WP P G N n (.seq (.block t a) b) Q fr h := f_cutV F H I ha hb
/-- .. behind an if-statement. -/
theorem f_cutI {α : Type} (t : Nat) {r a a' b : Code} (F : α → Frame) (H : α → Heap) (I : α → Prop) (ha : Hold (WP P G N n (.seq r (.cond (.tmp t) a a')) (cutQ n F H I Q) fr h)) (hb : ∀ y, I y → WP P G N n b Q (F y) (H y)) : WP P G N n (.seq (.seq r (.cond (.tmp t) a a')) b) Q fr h := f_cutV F H I ha.out hb
/-- .. behind a region and what stands ahead of it. -/
theorem f_cut2 {α : Type} (id : Nat) {a1 b : Code} {all : Array Oper} {d : Bool} (F : α → Frame) (H : α → Heap) (I : α → Prop) (ha : Hold (WP P G N n a1 (thenQ P G N n (.region id all d) (cutQ n F H I Q)) fr h)) (hb : ∀ y, I y → WP P G N n b Q (F y) (H y)) : WP P G N n (.seq a1 (.seq (.region id all d) b)) Q fr h := by
  refine f_seq (ha.out.mono fun e fr h q => ?_)
  cases e with
  | normal => exact f_cutV F H I q hb
  | _ => exact q
end
end Go.Fm
