/- FM, a program logic over the given model with abstract values and an abstract heap: general lemmas. No statement is closed in this text. -/
import Derived.Orders
import Derived.WalkKit
set_option linter.unusedVariables false
namespace Go.Fm
open Go

/-- A slice's capacity: known, or that of the open object behind it, less so many elements. -/
inductive ACap where
  | exact (n : Nat)
  | opn (eo prev : Nat)

/-- Values with numbers of objects in the place of block numbers. -/
inductive AV where
  | bool (b : Bool)
  | int (k : IntKind) (n : Int)
  | str (s : List UInt8)
  | ptr (id off : Nat)
  | gptr (g off : Nat)
  | gslc (g off len cap : Nat)
  | nilp
  | slc (id off len : Nat) (cap : ACap)
  | nils
  | mp (id : Nat)
  | nilm
  | fn (f : Fn) (first captured : List AV)
  | nilf
  | ifc (t : TypeId) (v : AV)
  | nili
  | agg (cs : List AV)
  | tup (vs : List AV)
  deriving Inhabited

instance : Inhabited AV := ⟨.nilp⟩

inductive AObj where
  | cells (cs : List AV) (ty : TypeId) (opn wr : Bool)
  | sit (s : List UInt8) (pos : Nat)
  | mapo (es : List (AV × AV × Nat)) (clock : Nat)
  | dead

abbrev Frame := List (Nat × AV)
abbrev Heap := List AObj

def get : Frame → Nat → Option AV
  | [], _ => none
  | (j, v) :: t, i => bif Nat.beq j i then some v else get t i

/-- What a smaller frame knows, a greater one knows. -/
def Sub : Frame → Frame → Prop
  | [], _ => True
  | (i, v) :: t, fr => get fr i = some v ∧ Sub t fr

mutual
def conc (μ κ : Nat → Nat) : AV → Value
  | .bool b => .bool b
  | .int k n => .int k n
  | .str s => .string ⟨s.toArray⟩
  | .ptr id off => .pointer (some ⟨μ id, off, none⟩)
  | .gptr g off => .pointer (some ⟨g, off, none⟩)
  | .gslc g off len cap => .slice (some ⟨g, off, none⟩) len cap
  | .nilp => .pointer none
  | .slc id off len (.exact c) => .slice (some ⟨μ id, off, none⟩) len c
  | .slc id off len (.opn eo prev) => .slice (some ⟨μ id, if κ id = eo then prev else off, none⟩) len (κ id - eo)
  | .nils => .slice none 0 0
  | .mp id => .map (some (μ id))
  | .nilm => .map none
  | .fn f a b => .func f (concs μ κ a).toArray (concs μ κ b).toArray
  | .nilf => .nilFunc
  | .ifc t v => .iface t (conc μ κ v)
  | .nili => .nilIface
  | .agg cs => .agg (concs μ κ cs).toArray
  | .tup vs => .tuple (concs μ κ vs).toArray
def concs (μ κ : Nat → Nat) : List AV → List Value
  | [] => []
  | v :: t => conc μ κ v :: concs μ κ t
end

mutual
/-- All numbers of objects in it are below n. -/
def AV.le (n : Nat) : AV → Prop
  | .ptr id _ => id < n
  | .slc id _ _ _ => id < n
  | .mp id => id < n
  | .fn _ a b => AVs.le n a ∧ AVs.le n b
  | .ifc _ v => v.le n
  | .agg cs => AVs.le n cs
  | .tup vs => AVs.le n vs
  | _ => True
def AVs.le (n : Nat) : List AV → Prop
  | [] => True
  | v :: t => v.le n ∧ AVs.le n t
end

theorem concs_map (μ κ : Nat → Nat) (l : List AV) : concs μ κ l = l.map (conc μ κ) := by
  induction l with
  | nil => rfl
  | cons v t ih => simp [concs, ih]

theorem concs_length (μ κ : Nat → Nat) (l : List AV) : (concs μ κ l).length = l.length := by simp [concs_map]
theorem concs_append (μ κ : Nat → Nat) (l m : List AV) : concs μ κ (l ++ m) = concs μ κ l ++ concs μ κ m := by simp [concs_map]
theorem concs_get (μ κ : Nat → Nat) (l : List AV) (i : Nat) : (concs μ κ l)[i]? = (l[i]?).map (conc μ κ) := by simp [concs_map]

theorem AVs.le_iff (n : Nat) (l : List AV) : AVs.le n l ↔ ∀ v ∈ l, v.le n := by
  induction l with
  | nil => simp [AVs.le]
  | cons v t ih => simp [AVs.le, ih]

mutual
theorem conc_congr {μ κ μ' κ' : Nat → Nat} {n : Nat} (h : ∀ i, i < n → μ' i = μ i ∧ κ' i = κ i) : ∀ v : AV, v.le n → conc μ' κ' v = conc μ κ v
  | .bool _, _ | .int _ _, _ | .str _, _ | .gptr _ _, _ | .gslc _ _ _ _, _ | .nilp, _ | .nils, _ | .nilm, _ | .nilf, _ | .nili, _ => rfl
  | .ptr id off, hl => by simp only [conc, (h id hl).1]
  | .slc id off len (.exact c), hl => by simp only [conc, (h id hl).1]
  | .slc id off len (.opn c p), hl => by simp only [conc, (h id hl).1, (h id hl).2]
  | .mp id, hl => by simp only [conc, (h id hl).1]
  | .fn f a b, hl => by simp only [conc, concs_congr h a hl.1, concs_congr h b hl.2]
  | .ifc t v, hl => by simp only [conc, conc_congr h v hl]
  | .agg cs, hl => by simp only [conc, concs_congr h cs hl]
  | .tup cs, hl => by simp only [conc, concs_congr h cs hl]
theorem concs_congr {μ κ μ' κ' : Nat → Nat} {n : Nat} (h : ∀ i, i < n → μ' i = μ i ∧ κ' i = κ i) : ∀ l : List AV, AVs.le n l → concs μ' κ' l = concs μ κ l
  | [], _ => rfl
  | v :: t, hl => by simp only [concs, conc_congr h v hl.1, concs_congr h t hl.2]
end

mutual
theorem AV.le_mono {n m : Nat} (h : n ≤ m) : ∀ v : AV, v.le n → v.le m
  | .bool _, _ | .int _ _, _ | .str _, _ | .gptr _ _, _ | .gslc _ _ _ _, _ | .nilp, _ | .nils, _ | .nilm, _ | .nilf, _ | .nili, _ => trivial
  | .ptr id off, hl => Nat.lt_of_lt_of_le hl h
  | .slc id off len c, hl => Nat.lt_of_lt_of_le hl h
  | .mp id, hl => Nat.lt_of_lt_of_le hl h
  | .fn f a b, hl => ⟨AVs.le_mono h a hl.1, AVs.le_mono h b hl.2⟩
  | .ifc t v, hl => AV.le_mono h v hl
  | .agg cs, hl => AVs.le_mono h cs hl
  | .tup cs, hl => AVs.le_mono h cs hl
theorem AVs.le_mono {n m : Nat} (h : n ≤ m) : ∀ l : List AV, AVs.le n l → AVs.le m l
  | [], _ => trivial
  | v :: t, hl => ⟨AV.le_mono h v hl.1, AVs.le_mono h t hl.2⟩
end

def AObj.own : AObj → Bool
  | .cells _ _ _ wr => wr
  | .sit .. => true
  | .mapo .. => true
  | .dead => false
def AObj.live : AObj → Bool
  | .dead => false
  | _ => true
def AObj.le (n : Nat) : AObj → Prop
  | .cells cs _ _ _ => AVs.le n cs
  | .sit .. => True
  | .mapo es _ => ∀ e ∈ es, e.1.le n ∧ e.2.1.le n
  | .dead => True

theorem AObj.live_of_own {o : AObj} (h : o.own = true) : o.live = true := by cases o <;> simp_all [AObj.own, AObj.live]
theorem AObj.le_mono {n m : Nat} (h : n ≤ m) {o : AObj} (hl : AObj.le n o) : AObj.le m o := by
  cases o with
  | cells cs ty opn wr => exact AVs.le_mono h cs hl
  | sit s p => trivial
  | mapo es c => exact fun e he => ⟨AV.le_mono h _ (hl e he).1, AV.le_mono h _ (hl e he).2⟩
  | dead => trivial

theorem cell_congr {w w' : World} {a : Addr} (h : w'.heap[a.block]? = w.heap[a.block]?) : w'.cell? a = w.cell? a := by simp only [World.cell?, h]
theorem cell_lt {w : World} {a : Addr} {v : Value} (h : w.cell? a = some v) : a.block < w.heap.size := by
  rcases Nat.lt_or_ge a.block w.heap.size with x | x
  · exact x
  · simp [World.cell?, Array.getElem?_eq_none x] at h

section
variable (P : Program) (G : Nat → Nat → Option AV)

def entC (μ κ : Nat → Nat) (e : AV × AV × Nat) : MapEntry := { key := conc μ κ e.1, val := conc μ κ e.2.1, born := e.2.2 }

def objRel (μ κ : Nat → Nat) (id : Nat) : AObj → Obj → Prop
  | .cells cs ty opn wr, b => ∃ c fz extra, b = .cells c ty fz ∧ c.toList = concs μ κ cs ++ extra ∧ (opn = false → extra = []) ∧ (opn = true → c.size = κ id * P.cellsOf ty) ∧
      (wr = true → ∀ off, off < c.size → ¬ (fz.1 ≤ off ∧ off < fz.2))
  | .sit s pos, b => b = .stringIter ⟨s.toArray⟩ pos
  | .mapo es clock, b => b = .map (es.map (entC μ κ)).toArray clock
  | .dead, _ => True

structure HRel (μ κ : Nat → Nat) (h : Heap) (w : World) : Prop where
  obj : ∀ (id : Nat) (o : AObj), h[id]? = some o → o.live = true → ∃ b, w.heap[μ id]? = some b ∧ objRel P μ κ id o b
  sep : ∀ (i j : Nat) (oi oj : AObj), h[i]? = some oi → h[j]? = some oj → i ≠ j → oi.own = true → oj.live = true → μ i ≠ μ j
  le : ∀ (i : Nat) (o : AObj), h[i]? = some o → AObj.le h.length o
  glob : ∀ g j v, G g j = some v → w.cell? ⟨g, j, none⟩ = some (conc μ κ v) ∧ v.le 0
  apart : ∀ (i : Nat) (o : AObj) (g j : Nat) (v : AV), h[i]? = some o → o.own = true → G g j = some v → μ i ≠ g

def dslot : Nat := 1000000
def defersOf (fr : Frame) : List AV := match get fr dslot with
  | some (.tup l) => l
  | _ => []
def toDef (μ κ : Nat → Nat) : AV → Deferred
  | .fn f a b => { target := .fn f (concs μ κ b).toArray, args := (concs μ κ a).toArray }
  | .nilf => { target := .nil, args := #[] }
  | _ => default

structure FRel (N : Nat) (μ κ : Nat → Nat) (fr : Frame) (n : Nat) (a : Act) : Prop where
  size : a.tmps.size = N
  small : N ≤ dslot
  defers : a.defers = (defersOf fr).map (toDef μ κ)
  dle : AVs.le n (defersOf fr)
  slot : ∀ i v, get fr i = some v → i ≠ dslot → a.tmps[i]? = some (conc μ κ v) ∧ v.le n

structure Ext (μ κ μ' κ' : Nat → Nat) (h h' : Heap) (w w' : World) : Prop where
  os : w'.os = w.os
  tape : w'.tape = w.tape
  output : w'.output = w.output
  size : w.heap.size ≤ w'.heap.size
  len : h.length ≤ h'.length
  agree : ∀ i, i < h.length → μ' i = μ i ∧ κ' i = κ i
  keep : ∀ b, b < w.heap.size → (∀ i o, h[i]? = some o → o.own = true → μ i ≠ b) → w'.heap[b]? = w.heap[b]?
  fresh : ∀ (i : Nat) (o : AObj), h'[i]? = some o → o.live = true → (i < h.length ∧ ∃ oj : AObj, h[i]? = some oj ∧ (o.own = true → oj.own = true) ∧ oj.live = true) ∨
    (h.length ≤ i ∧ ((∃ (j : Nat) (oj : AObj), h[j]? = some oj ∧ oj.own = true ∧ μ' i = μ j) ∨ w.heap.size ≤ μ' i))
end

theorem lt_of_get {α : Type} {l : List α} {i : Nat} {x : α} (h : l[i]? = some x) : i < l.length := by
  rcases Nat.lt_or_ge i l.length with y | y
  · exact y
  · rw [List.getElem?_eq_none y] at h; simp at h

theorem Ext.refl (μ κ : Nat → Nat) (h : Heap) (w : World) : Ext μ κ μ κ h h w w :=
  ⟨rfl, rfl, rfl, Nat.le_refl _, Nat.le_refl _, fun _ _ => ⟨rfl, rfl⟩, fun _ _ _ => rfl, fun i o hi ho => .inl ⟨lt_of_get hi, o, hi, id, ho⟩⟩

theorem Ext.trans {μ κ μ₁ κ₁ μ₂ κ₂ : Nat → Nat} {h h₁ h₂ : Heap} {w w₁ w₂ : World} (x : Ext μ κ μ₁ κ₁ h h₁ w w₁) (y : Ext μ₁ κ₁ μ₂ κ₂ h₁ h₂ w₁ w₂) :
    Ext μ κ μ₂ κ₂ h h₂ w w₂ where
  os := y.os.trans x.os
  tape := y.tape.trans x.tape
  output := y.output.trans x.output
  size := Nat.le_trans x.size y.size
  len := Nat.le_trans x.len y.len
  agree i hi := by
    have a := x.agree i hi
    have b := y.agree i (Nat.lt_of_lt_of_le hi x.len)
    exact ⟨b.1.trans a.1, b.2.trans a.2⟩
  keep b hb hn := by
    have h1 := x.keep b hb hn
    refine (y.keep b (Nat.lt_of_lt_of_le hb x.size) ?_).trans h1
    intro i o hi ho e
    rcases x.fresh i o hi (AObj.live_of_own ho) with ⟨hl, oj, hj, hoj, _⟩ | ⟨_, ⟨j, oj, hj, hoj, hm⟩ | hf⟩
    · exact hn i oj hj (hoj ho) ((x.agree i hl).1.symm.trans e)
    · exact hn j oj hj hoj (hm.symm.trans e)
    · omega
  fresh i o hi ho := by
    rcases y.fresh i o hi ho with ⟨hl, o1, h1, ho1, hlv⟩ | ⟨hge, hh⟩
    · rcases x.fresh i o1 h1 hlv with ⟨hl2, o2, h2, ho2, hlv2⟩ | ⟨hge2, hh2⟩
      · exact .inl ⟨hl2, o2, h2, fun q => ho2 (ho1 q), hlv2⟩
      · refine .inr ⟨hge2, ?_⟩
        rw [(y.agree i hl).1]
        exact hh2
    · refine .inr ⟨Nat.le_trans x.len hge, ?_⟩
      rcases hh with ⟨j, oj, hj, hoj, hm⟩ | hf
      · rcases x.fresh j oj hj (AObj.live_of_own hoj) with ⟨hl2, o2, h2, ho2, _⟩ | ⟨_, ⟨k, ok, hk, hok, hm2⟩ | hf2⟩
        · exact .inl ⟨j, o2, h2, ho2 hoj, hm.trans (x.agree j hl2).1⟩
        · exact .inl ⟨k, ok, hk, hok, hm.trans hm2⟩
        · exact .inr (by omega)
      · exact .inr (Nat.le_trans x.size hf)

/-- A draw, or nothing at all: the heap is as it was. -/
theorem HRel.of_heap {P : Program} {G : Nat → Nat → Option AV} {μ κ : Nat → Nat} {h : Heap} {w w' : World} (r : HRel P G μ κ h w) (e : w'.heap = w.heap) : HRel P G μ κ h w' :=
  ⟨fun id o a b => by rw [e]; exact r.obj id o a b, r.sep, r.le, fun g j v a => by rw [cell_congr (w := w) (w' := w') (by rw [e])]; exact r.glob g j v a, r.apart⟩

inductive AExit where
  | normal
  | exit (id : Nat)
  | ret
  | panic (v : AV)

inductive AEnd where
  | ret (v : AV)
  | panic (v : AV)

def exRel (μ κ : Nat → Nat) (n : Nat) : AExit → Exit → Prop
  | .normal, e => e = .normal
  | .exit id, e => e = .exit id
  | .ret, e => e = .ret
  | .panic v, e => e = .panic [{ v := conc μ κ v, recovered := false }] ∧ v.le n

def endRel (μ κ : Nat → Nat) (n : Nat) : AEnd → Ending → Prop
  | .ret v, e => e = .returned (conc μ κ v) ∧ v.le n
  | .panic v, e => e = .panicked [{ v := conc μ κ v, recovered := false }] ∧ v.le n

section
variable (P : Program) (G : Nat → Nat → Option AV)

def Post (N : Nat) (μ κ : Nat → Nat) (h : Heap) (w : World) (Q : AExit → Frame → Heap → Prop) (e : Exit) (a' : Act) (w' : World) : Prop :=
  ∃ μ' κ' e' fr' h', Q e' fr' h' ∧ exRel μ' κ' h'.length e' e ∧ HRel P G μ' κ' h' w' ∧ FRel N μ' κ' fr' h'.length a' ∧ Ext μ κ μ' κ' h h' w w'

/-- From a state of frame 'fr' and heap 'h' on, reached from a heap of 'n' objects, the code comes to Q. -/
def WP (N n : Nat) (c : Code) (Q : AExit → Frame → Heap → Prop) (fr : Frame) (h : Heap) : Prop :=
  ∀ μ₀ κ₀ h₀ w₀ μ κ a w, List.length (α := AObj) h₀ = n → Ext μ₀ κ₀ μ κ h₀ h w₀ w → HRel P G μ κ h w → FRel N μ κ fr h.length a → c.wp P (Post P G N μ₀ κ₀ h₀ w₀ Q) a w

def CallPost (μ κ : Nat → Nat) (h : Heap) (w : World) (R : AEnd → Heap → Prop) (e : Ending) (w' : World) : Prop :=
  ∃ μ' κ' e' h', R e' h' ∧ endRel μ' κ' h'.length e' e ∧ HRel P G μ' κ' h' w' ∧ Ext μ κ μ' κ' h h' w w'

def CallTo (f : FuncId) (args : List AV) (h : Heap) (R : AEnd → Heap → Prop) : Prop :=
  ∀ μ κ w, HRel P G μ κ h w → AVs.le h.length args → Calls P f (concs μ κ args).toArray w (CallPost P G μ κ h w R)
end

section
variable {P : Program} {G : Nat → Nat → Option AV} {N n : Nat}

theorem CallTo.mono {f : FuncId} {args : List AV} {h : Heap} {R R' : AEnd → Heap → Prop} (hc : CallTo P G f args h R) (hr : ∀ e h', R e h' → R' e h') : CallTo P G f args h R' :=
  fun μ κ w a b => (hc μ κ w a b).mono fun _ _ ⟨μ', κ', e', h', r, rest⟩ => ⟨μ', κ', e', h', hr _ _ r, rest⟩

theorem WP.mono {c : Code} {Q Q' : AExit → Frame → Heap → Prop} {fr : Frame} {h : Heap} (hc : WP P G N n c Q fr h) (hq : ∀ e fr h, Q e fr h → Q' e fr h) : WP P G N n c Q' fr h :=
  fun μ₀ κ₀ h₀ w₀ μ κ a w hn hx hh hf => wp_mono (hc μ₀ κ₀ h₀ w₀ μ κ a w hn hx hh hf) fun _ _ _ ⟨μ', κ', e', fr', h', q, rest⟩ => ⟨μ', κ', e', fr', h', hq _ _ _ q, rest⟩

theorem f_skip {Q : AExit → Frame → Heap → Prop} {fr : Frame} {h : Heap} (q : Q .normal fr h) : WP P G N n .skip Q fr h :=
  fun _ _ _ _ _ _ _ _ _ hx hh hf => Go.wp_skip ⟨_, _, _, _, _, q, rfl, hh, hf, hx⟩
theorem f_ret {Q : AExit → Frame → Heap → Prop} {fr : Frame} {h : Heap} (q : Q .ret fr h) : WP P G N n .ret Q fr h :=
  fun _ _ _ _ _ _ _ _ _ hx hh hf => Go.wp_ret ⟨_, _, _, _, _, q, rfl, hh, hf, hx⟩
theorem f_exit {id : Nat} {Q : AExit → Frame → Heap → Prop} {fr : Frame} {h : Heap} (q : Q (.exit id) fr h) : WP P G N n (.exit id) Q fr h :=
  fun _ _ _ _ _ _ _ _ _ hx hh hf => Go.wp_exit ⟨_, _, _, _, _, q, rfl, hh, hf, hx⟩

/-- What follows a piece of code. -/
def thenQ (P : Program) (G : Nat → Nat → Option AV) (N n : Nat) (b : Code) (Q : AExit → Frame → Heap → Prop) : AExit → Frame → Heap → Prop
  | .normal, fr, h => WP P G N n b Q fr h
  | e, fr, h => Q e fr h

theorem f_seq {a b : Code} {Q : AExit → Frame → Heap → Prop} {fr : Frame} {h : Heap} (ha : WP P G N n a (thenQ P G N n b Q) fr h) : WP P G N n (.seq a b) Q fr h := by
  intro μ₀ κ₀ h₀ w₀ μ κ ac w hn hx hh hf
  refine Go.wp_seq (wp_mono (ha μ₀ κ₀ h₀ w₀ μ κ ac w hn hx hh hf) ?_)
  rintro e a' w' ⟨μ', κ', e', fr', h', q, er, hr, fr1, ex⟩
  cases e' with
  | normal => cases er; exact q μ₀ κ₀ h₀ w₀ μ' κ' a' w' hn ex hr fr1
  | exit id => cases er; exact ⟨μ', κ', .exit id, fr', h', q, rfl, hr, fr1, ex⟩
  | ret => cases er; exact ⟨μ', κ', .ret, fr', h', q, rfl, hr, fr1, ex⟩
  | panic v => obtain ⟨rfl, hv⟩ := er; exact ⟨μ', κ', .panic v, fr', h', q, ⟨rfl, hv⟩, hr, fr1, ex⟩

def blkQ (id : Nat) (Q : AExit → Frame → Heap → Prop) : AExit → Frame → Heap → Prop
  | .exit j, fr, h => bif Nat.beq j id then Q .normal fr h else Q (.exit j) fr h
  | e, fr, h => Q e fr h

theorem beq_false_of_ne {j id : Nat} (hj : j ≠ id) : Nat.beq j id = false := by
  cases hb : Nat.beq j id with
  | false => rfl
  | true => exact absurd (Nat.eq_of_beq_eq_true hb) hj

theorem f_block {id : Nat} {c : Code} {Q : AExit → Frame → Heap → Prop} {fr : Frame} {h : Heap} (hc : WP P G N n c (blkQ id Q) fr h) : WP P G N n (.block id c) Q fr h := by
  intro μ₀ κ₀ h₀ w₀ μ κ ac w hn hx hh hf
  refine Go.wp_block (wp_mono (hc μ₀ κ₀ h₀ w₀ μ κ ac w hn hx hh hf) ?_)
  rintro e a' w' ⟨μ', κ', e', fr', h', q, er, hr, fr1, ex⟩
  cases e' with
  | normal => cases er; exact ⟨μ', κ', .normal, fr', h', q, rfl, hr, fr1, ex⟩
  | exit j =>
    cases er
    simp only [blkQ] at q
    by_cases hj : j = id
    · subst hj
      simp only [Exit.inBlock, if_true]
      simp only [Nat.beq_refl, cond_true] at q
      exact ⟨μ', κ', .normal, fr', h', q, rfl, hr, fr1, ex⟩
    · simp only [beq_false_of_ne hj, cond_false] at q
      simp only [Exit.inBlock, hj, if_false]
      exact ⟨μ', κ', .exit j, fr', h', q, rfl, hr, fr1, ex⟩
  | ret => cases er; exact ⟨μ', κ', .ret, fr', h', q, rfl, hr, fr1, ex⟩
  | panic v => obtain ⟨rfl, hv⟩ := er; exact ⟨μ', κ', .panic v, fr', h', q, ⟨rfl, hv⟩, hr, fr1, ex⟩

/-- What a round of a loop comes to: a state of the family of a lower measure, or an exit. -/
def loopQ {α : Type} (I : α → Frame → Heap → Prop) (m : α → Nat) (x : α) (Q : AExit → Frame → Heap → Prop) : AExit → Frame → Heap → Prop
  | .normal, fr, h => ∃ y, I y fr h ∧ m y < m x
  | e, fr, h => Q e fr h

theorem f_loop {α : Type} {c : Code} {Q : AExit → Frame → Heap → Prop} {fr : Frame} {h : Heap} (I : α → Frame → Heap → Prop) (m : α → Nat) (x₀ : α) (h0 : I x₀ fr h)
    (round : ∀ x fr h, I x fr h → WP P G N n c (loopQ I m x Q) fr h) : WP P G N n (.loop c) Q fr h := by
  intro μ₀ κ₀ h₀ w₀ μ κ ac w hn hx hh hf
  classical
  let S : α → Act → World → Prop := fun x a w => ∃ fr h μ κ, I x fr h ∧ Ext μ₀ κ₀ μ κ h₀ h w₀ w ∧ HRel P G μ κ h w ∧ FRel N μ κ fr h.length a
  let E : Act → World → Nat → Prop := fun a w k => ∃ x, S x a w ∧ m x = k
  have least : ∀ a w, (∃ x, S x a w) → ∃ k, E a w k ∧ ∀ j, E a w j → k ≤ j := by
    intro a w ⟨x, hxs⟩
    have key : ∀ k, E a w k → ∃ k, E a w k ∧ ∀ j, E a w j → k ≤ j := by
      intro k
      induction k using Nat.strongRecOn with
      | _ k ih =>
        intro hk
        by_cases hlt : ∃ j, j < k ∧ E a w j
        · obtain ⟨j, hj, hE⟩ := hlt; exact ih j hj hE
        · exact ⟨k, hk, fun j hj => Nat.le_of_not_lt fun hl => hlt ⟨j, hl, hj⟩⟩
    exact key _ ⟨x, hxs, rfl⟩
  let M : Act → World → Nat := fun a w => if hE : ∃ x, S x a w then Classical.choose (least a w hE) else 0
  have hM : ∀ a w (hE : ∃ x, S x a w), E a w (M a w) ∧ ∀ j, E a w j → M a w ≤ j := by
    intro a w hE
    simp only [M, dif_pos hE]
    exact Classical.choose_spec (least a w hE)
  refine Go.wp_loop (fun a w => ∃ x, S x a w) M ⟨x₀, fr, h, μ, κ, h0, hx, hh, hf⟩ ?_
  intro a w hE
  obtain ⟨⟨x, ⟨fr1, h1, μ1, κ1, hi, hx1, hh1, hf1⟩, hm⟩, _⟩ := hM a w hE
  refine wp_mono (round x fr1 h1 hi μ₀ κ₀ h₀ w₀ μ1 κ1 a w hn hx1 hh1 hf1) ?_
  rintro e a' w' ⟨μ', κ', e', fr', h', q, er, hr, fr2, ex⟩
  cases e' with
  | normal =>
    cases er
    obtain ⟨y, hy, hlt⟩ := q
    have hS : S y a' w' := ⟨fr', h', μ', κ', hy, ex, hr, fr2⟩
    refine ⟨⟨y, hS⟩, ?_⟩
    have := (hM a' w' ⟨y, hS⟩).2 _ ⟨y, hS, rfl⟩
    omega
  | exit id => cases er; exact ⟨μ', κ', .exit id, fr', h', q, rfl, hr, fr2, ex⟩
  | ret => cases er; exact ⟨μ', κ', .ret, fr', h', q, rfl, hr, fr2, ex⟩
  | panic v => obtain ⟨rfl, hv⟩ := er; exact ⟨μ', κ', .panic v, fr', h', q, ⟨rfl, hv⟩, hr, fr2, ex⟩

/-! Exits, on their way out. -/
section
variable {b : Code} {Q : AExit → Frame → Heap → Prop} {fr : Frame} {h : Heap} {id j : Nat} {v : AV}
theorem then_n (q : WP P G N n b Q fr h) : thenQ P G N n b Q .normal fr h := q
theorem then_x (q : Q (.exit id) fr h) : thenQ P G N n b Q (.exit id) fr h := q
theorem then_r (q : Q .ret fr h) : thenQ P G N n b Q .ret fr h := q
theorem then_p (q : Q (.panic v) fr h) : thenQ P G N n b Q (.panic v) fr h := q
theorem blk_n (q : Q .normal fr h) : blkQ id Q .normal fr h := q
theorem blk_eq (e : Nat.beq j id = true) (q : Q .normal fr h) : blkQ id Q (.exit j) fr h := by simp only [blkQ, e, cond_true]; exact q
theorem blk_ne (e : Nat.beq j id = false) (q : Q (.exit j) fr h) : blkQ id Q (.exit j) fr h := by simp only [blkQ, e, cond_false]; exact q
theorem blk_r (q : Q .ret fr h) : blkQ id Q .ret fr h := q
theorem blk_p (q : Q (.panic v) fr h) : blkQ id Q (.panic v) fr h := q
theorem loop_n {α : Type} {I : α → Frame → Heap → Prop} {m : α → Nat} {x : α} (y : α) (hy : I y fr h) (hm : m y < m x) : loopQ I m x Q .normal fr h := ⟨y, hy, hm⟩
theorem loop_x {α : Type} {I : α → Frame → Heap → Prop} {m : α → Nat} {x : α} (q : Q (.exit id) fr h) : loopQ I m x Q (.exit id) fr h := q
theorem loop_r {α : Type} {I : α → Frame → Heap → Prop} {m : α → Nat} {x : α} (q : Q .ret fr h) : loopQ I m x Q .ret fr h := q
theorem loop_p {α : Type} {I : α → Frame → Heap → Prop} {m : α → Nat} {x : α} (q : Q (.panic v) fr h) : loopQ I m x Q (.panic v) fr h := q
end
end
end Go.Fm
