/- FM, a program logic over the given model with abstract values and an abstract heap: general lemmas. No statement is closed in this text. -/
import Derived.Test.YtcimapbdkmdcpaaGreatDoorFmA
set_option linter.unusedVariables false
namespace Go.Fm
open Go

def nth {α : Type} : List α → Nat → Option α
  | [], _ => none
  | x :: _, 0 => some x
  | _ :: t, n + 1 => nth t n
theorem nth_eq {α : Type} (l : List α) (i : Nat) : nth l i = l[i]? := by
  induction l generalizing i with
  | nil => simp [nth]
  | cons x t ih => cases i <;> simp [nth, ih]

def setNth {α : Type} : List α → Nat → α → List α
  | [], _, _ => []
  | _ :: t, 0, y => y :: t
  | x :: t, n + 1, y => x :: setNth t n y
theorem setNth_eq {α : Type} (l : List α) (i : Nat) (y : α) : setNth l i y = l.set i y := by
  induction l generalizing i with
  | nil => simp [setNth]
  | cons x t ih => cases i <;> simp [setNth, ih]

def takeN : Nat → List AV → Option (List AV)
  | 0, _ => some []
  | _ + 1, [] => none
  | n + 1, v :: t => match takeN n t with
    | some l => some (v :: l)
    | none => none
theorem takeN_some : ∀ {n : Nat} {l m : List AV}, takeN n l = some m → m = l.take n ∧ m.length = n ∧ n ≤ l.length
  | 0, l, m, h => by simp [takeN] at h; subst h; simp
  | n + 1, [], m, h => by simp [takeN] at h
  | n + 1, v :: t, m, h => by
    simp only [takeN] at h
    cases ht : takeN n t with
    | none => simp [ht] at h
    | some l => simp [ht] at h; subst h; obtain ⟨a, b, c⟩ := takeN_some ht; simp [a]; omega
theorem takeN_of_le : ∀ {n : Nat} {l : List AV}, n ≤ l.length → takeN n l = some (l.take n)
  | 0, l, _ => by simp [takeN]
  | n + 1, [], h => by simp at h
  | n + 1, v :: t, h => by simp [takeN, takeN_of_le (n := n) (l := t) (by simpa using h)]

/-- The cells from 'off' on written over by others. -/
def over : List AV → Nat → List AV → Option (List AV)
  | cs, 0, [] => some cs
  | [], 0, _ :: _ => none
  | _ :: t, 0, v :: vs => match over t 0 vs with
    | some l => some (v :: l)
    | none => none
  | [], _ + 1, _ => none
  | c :: t, n + 1, vs => match over t n vs with
    | some l => some (c :: l)
    | none => none
theorem over_some : ∀ {cs : List AV} {off : Nat} {vs m : List AV}, over cs off vs = some m →
    m.length = cs.length ∧ off + vs.length ≤ cs.length ∧ ∀ j, m[j]? = if off ≤ j ∧ j < off + vs.length then vs[j - off]? else cs[j]? := by
  intro cs
  induction cs with
  | nil =>
    intro off vs m h
    cases off with
    | zero => cases vs with
      | nil => simp [over] at h; subst h; simp
      | cons v t => simp [over] at h
    | succ n => simp [over] at h
  | cons c t ih =>
    intro off vs m h
    cases off with
    | zero =>
      cases vs with
      | nil => simp [over] at h; subst h; exact ⟨rfl, by simp, fun j => by rw [if_neg (by simp)]⟩
      | cons v vs =>
        simp only [over] at h
        cases ho : over t 0 vs with
        | none => simp [ho] at h
        | some l =>
          simp [ho] at h; subst h
          obtain ⟨a, b, d⟩ := ih ho
          refine ⟨by simp [a], by simpa using b, fun j => ?_⟩
          cases j with
          | zero => simp
          | succ j =>
            have := d j
            simp only [Nat.zero_le, true_and, Nat.zero_add, Nat.sub_zero] at this
            simp only [List.getElem?_cons_succ, this, List.length_cons, Nat.zero_le, true_and, Nat.zero_add, Nat.sub_zero, Nat.add_lt_add_iff_right]
    | succ n =>
      simp only [over] at h
      cases ho : over t n vs with
      | none => simp [ho] at h
      | some l =>
        simp [ho] at h; subst h
        obtain ⟨a, b, d⟩ := ih ho
        refine ⟨by simp [a], by simp; omega, fun j => ?_⟩
        cases j with
        | zero => simp
        | succ j =>
          have := d j
          simp only [List.getElem?_cons_succ, this]
          by_cases hc : n ≤ j ∧ j < n + vs.length
          · rw [if_pos hc, if_pos (by omega)]; congr 1; omega
          · rw [if_neg hc, if_neg (by omega)]

/-! Constants. -/
def ofScalar : Value → Option AV
  | .bool b => some (.bool b)
  | .int k n => some (.int k n)
  | .string s => some (.str s.data.toList)
  | .pointer none => some .nilp
  | .slice none 0 0 => some .nils
  | .map none => some .nilm
  | .nilFunc => some .nilf
  | .nilIface => some .nili
  | _ => none
def ofScalars : List Value → Option (List AV)
  | [] => some []
  | v :: t => match ofScalar v, ofScalars t with
    | some a, some l => some (a :: l)
    | _, _ => none
def ofConst : Value → Option AV
  | .agg cs => (ofScalars cs.toList).map .agg
  | v => ofScalar v

theorem ofScalar_sound {v : Value} {a : AV} (h : ofScalar v = some a) (μ κ : Nat → Nat) : conc μ κ a = v ∧ a.le 0 := by
  unfold ofScalar at h
  split at h <;> simp at h <;> subst h <;> simp [conc, AV.le]
theorem ofScalars_sound (μ κ : Nat → Nat) : ∀ {l : List Value} {as : List AV}, ofScalars l = some as → concs μ κ as = l ∧ AVs.le 0 as
  | [], as, h => by simp [ofScalars] at h; subst h; exact ⟨rfl, trivial⟩
  | v :: t, as, h => by
    simp only [ofScalars] at h
    cases hv : ofScalar v with
    | none => simp [hv] at h
    | some a =>
      cases ht : ofScalars t with
      | none => simp [hv, ht] at h
      | some l =>
        simp [hv, ht] at h; subst h
        have x := ofScalar_sound hv μ κ
        have y := ofScalars_sound μ κ ht
        exact ⟨by simp [concs, x.1, y.1], x.2, y.2⟩
theorem ofConst_sound {v : Value} {a : AV} (h : ofConst v = some a) (μ κ : Nat → Nat) : conc μ κ a = v ∧ a.le 0 := by
  unfold ofConst at h
  split at h
  · rename_i cs
    cases hs : ofScalars cs.toList with
    | none => simp [hs] at h
    | some l => simp [hs] at h; subst h; have := ofScalars_sound μ κ hs; exact ⟨by simp [conc, this.1], this.2⟩
  · exact ofScalar_sound h μ κ

def ev (fr : Frame) : Operand → Option AV
  | .tmp t => bif Nat.beq t dslot then none else get fr t
  | .const v => ofConst v
  | .global g => some (.gptr g 0)
  | .func f => some (.fn (.func f) [] [])

theorem ev_sound {N n : Nat} {μ κ : Nat → Nat} {fr : Frame} {a : Act} {x : Operand} {v : AV} (hf : FRel N μ κ fr n a) (h : ev fr x = some v) : a.eval x = conc μ κ v ∧ v.le n := by
  cases x with
  | tmp t =>
    simp only [ev] at h
    by_cases hd : t = dslot
    · subst hd; simp at h
    · simp only [beq_false_of_ne hd, cond_false] at h
      have := hf.slot t v h hd
      exact ⟨by simp [Act.eval, Array.getD_eq_getD_getElem?, this.1], this.2⟩
  | const c => have := ofConst_sound h μ κ; exact ⟨by simp [Act.eval, this.1], AV.le_mono (Nat.zero_le _) _ this.2⟩
  | global g => simp [ev] at h; subst h; exact ⟨rfl, trivial⟩
  | func f => simp [ev] at h; subst h; exact ⟨by simp [Act.eval, conc, concs], trivial, trivial⟩

/-! Types. -/
inductive UK where
  | bool | int (k : IntKind) | str | ptr (e : TypeId) | slc (e : TypeId) | arr (n : Nat) (e : TypeId) | strct (fs : List (Nat × TypeId))
  | iface | map (k e : TypeId) | func | unsf | other
structure TInfo where
  uk : UK
  size : Nat
  bytes : Nat
  zero : Option AV

def UK.agg : UK → Bool
  | .strct _ | .arr _ _ => true
  | _ => false

def ukRel : UK → TypeDesc → Prop
  | .bool, d => d = .bool
  | .int k, d => d = .int k
  | .str, d => d = .string
  | .ptr e, d => d = .pointer e
  | .slc e, d => d = .slice e
  | .arr n e, d => d = .array n e
  | .strct fs, d => ∃ f, d = .struct f ∧ f.toList.map (fun x => (x.offset, x.type)) = fs
  | .iface, d => ∃ m, d = .interface m
  | .map k e, d => d = .map k e
  | .func, d => ∃ a b c, d = .func a b c
  | .unsf, d => d = .unsafePointer
  | .other, d => False

structure TOk (P : Program) (t : TypeId) (i : TInfo) (ti : TypeInfo) (d : TypeDesc) : Prop where
  info : P.info? t = some ti
  size : ti.size = i.size
  bytes : ti.bytes = i.bytes
  zero : ∀ z, i.zero = some z → ∃ zv, ti.zero = some zv ∧ (∀ μ κ, conc μ κ z = zv) ∧ z.le 0
  und : P.underlying t = some d
  uk : ukRel i.uk d

/-- The table says of the program's types what holds. -/
def TbOk (P : Program) (Tb : TypeId → Option TInfo) : Prop := ∀ t i, Tb t = some i → ∃ ti d, TOk P t i ti d

section
variable {P : Program} {Tb : TypeId → Option TInfo} {t : TypeId} {i : TInfo} {ti : TypeInfo} {d : TypeDesc} (w : World)
theorem TOk.run_underlying (h : TOk P t i ti d) : (underlying t).run P w = .ok d w := Go.run_underlying h.und w
theorem TOk.run_info (h : TOk P t i ti d) : (typeInfo t).run P w = .ok ti w := by simp [typeInfo, h.info]
theorem TOk.run_size (h : TOk P t i ti d) : (sizeOf t).run P w = .ok i.size w := by simp [sizeOf, h.run_info, h.size]
theorem TOk.run_agg (h : TOk P t i ti d) : (isAgg t).run P w = .ok i.uk.agg w := by
  have hu := h.uk
  simp only [isAgg, Sem.run_bind, h.run_underlying, Result.andThen_ok]
  cases hk : i.uk <;> rw [hk] at hu <;> simp only [ukRel] at hu <;> first
    | (subst hu; rfl)
    | (obtain ⟨f, rfl, _⟩ := hu; rfl)
    | (obtain ⟨f, rfl⟩ := hu; rfl)
    | (obtain ⟨a, b, c, rfl⟩ := hu; rfl)
    | exact hu.elim
theorem TOk.cells (h : TOk P t i ti d) : P.cellsOf t = i.size := by simp [Program.cellsOf, h.info, h.size]
theorem TOk.run_zero (h : TOk P t i ti d) {z : AV} (hz : i.zero = some z) (μ κ : Nat → Nat) : (zeroValue t).run P w = .ok (conc μ κ z) w ∧ z.le 0 := by
  obtain ⟨zv, a, b, c⟩ := h.zero z hz
  exact ⟨by simp [zeroValue, h.run_info, a, b], c⟩
end

def AV.cells : AV → List AV
  | .agg cs => cs
  | v => [v]
theorem cells_conc (μ κ : Nat → Nat) (v : AV) : (conc μ κ v).cells.toList = concs μ κ v.cells := by
  cases v with
  | slc id off len cap => cases cap <;> simp [conc, Value.cells, AV.cells, concs]
  | _ => simp [conc, Value.cells, AV.cells, concs]
theorem cells_le {n : Nat} {v : AV} (h : v.le n) : AVs.le n v.cells := by
  cases v <;> first | exact ⟨h, trivial⟩ | exact h
def AV.one : AV → Bool
  | .agg _ | .tup _ => false
  | _ => true
theorem one_conc (μ κ : Nat → Nat) {v : AV} (h : v.one = true) : (conc μ κ v).oneCell' = true := by
  cases v with
  | slc id off len cap => cases cap <;> rfl
  | agg cs => simp [AV.one] at h
  | tup cs => simp [AV.one] at h
  | _ => rfl
def allOne : List AV → Bool
  | [] => true
  | v :: t => bif v.one then allOne t else false
theorem allOne_mem : ∀ {l : List AV}, allOne l = true → ∀ v ∈ l, v.one = true
  | [], _, v, hv => by simp at hv
  | x :: t, h, v, hv => by
    simp only [allOne] at h
    cases hx : x.one with
    | false => simp [hx] at h
    | true =>
      simp [hx] at h
      rcases List.mem_cons.1 hv with rfl | hv
      · exact hx
      · exact allOne_mem h v hv

/-! Memory. -/
section
variable {P : Program} {G : Nat → Nat → Option AV} {μ κ : Nat → Nat} {h : Heap} {w : World}

theorem cells_read {c : Array Value} {ty : TypeId} {fz : Nat × Nat} {b : Nat} {cs : List AV} {extra : List Value} (hb : w.heap[b]? = some (.cells c ty fz)) (hc : c.toList = concs μ κ cs ++ extra) (i : Nat) (v : AV) (hv : cs[i]? = some v) :
    w.cell? ⟨b, i, none⟩ = some (conc μ κ v) := by
  have hi : i < cs.length := by
    rcases Nat.lt_or_ge i cs.length with h | h
    · exact h
    · simp [List.getElem?_eq_none h] at hv
  have e : c[i]? = some (conc μ κ v) := by
    rw [← Array.getElem?_toList, hc, List.getElem?_append_left (by simpa [concs_length] using hi), concs_get, hv]; rfl
  simp [World.cell?, hb, e]

theorem obj_cells {id : Nat} {cs : List AV} {ty : TypeId} {opn wr : Bool} {b : Nat} {bo : Obj} (ho : objRel P μ κ id (.cells cs ty opn wr) bo) (hb : w.heap[b]? = some bo) (i : Nat) (v : AV) (hv : cs[i]? = some v) :
    w.cell? ⟨b, i, none⟩ = some (conc μ κ v) := by
  obtain ⟨c, fz, extra, rfl, hc, _⟩ := ho
  exact cells_read hb hc i v hv

/-- Where a pointer leads. -/
def cellsAt (h : Heap) : AV → Option (List AV × Nat)
  | .ptr id off => match nth h id with
    | some (.cells cs _ _ _) => some (cs, off)
    | _ => none
  | _ => none

theorem cellsAt_sound (hh : HRel P G μ κ h w) {p : AV} {cs : List AV} {off : Nat} (hp : cellsAt h p = some (cs, off)) :
    ∃ b, conc μ κ p = .pointer (some ⟨b, off, none⟩) ∧ (∀ i v, cs[i]? = some v → w.cell? ⟨b, i, none⟩ = some (conc μ κ v)) ∧ AVs.le h.length cs := by
  cases p with
  | ptr id o =>
    simp only [cellsAt] at hp
    split at hp
    · rename_i cs' ty opn wr he
      rw [nth_eq] at he
      simp at hp; obtain ⟨rfl, rfl⟩ := hp
      obtain ⟨b, hb, hr⟩ := hh.obj id _ he rfl
      exact ⟨μ id, rfl, fun i v hv => obj_cells hr hb i v hv, hh.le id _ he⟩
    · simp at hp
  | _ => simp [cellsAt] at hp
end
end Go.Fm
