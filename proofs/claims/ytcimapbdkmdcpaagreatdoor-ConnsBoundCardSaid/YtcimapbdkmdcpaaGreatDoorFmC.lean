/- FM, a program logic over the given model with abstract values and an abstract heap: general lemmas. No statement is closed in this text. -/
import Derived.Test.YtcimapbdkmdcpaaGreatDoorFmB
set_option linter.unusedVariables false
set_option linter.unusedSimpArgs false
namespace Go.Fm
open Go

def kindEq : IntKind → IntKind → Bool
  | .i8, .i8 | .i16, .i16 | .i32, .i32 | .i64, .i64 | .u8, .u8 | .u16, .u16 | .u32, .u32 | .u64, .u64 => true
  | _, _ => false
theorem kindEq_eq {a b : IntKind} (h : kindEq a b = true) : a = b := by cases a <;> cases b <;> simp_all [kindEq]

def bits2 (op : BinOp) (k : IntKind) (x y : Int) : Int :=
  match op with
  | .and => k.wrap (BitVec.ofInt k.bits x &&& BitVec.ofInt k.bits y).toNat
  | .or => k.wrap (BitVec.ofInt k.bits x ||| BitVec.ofInt k.bits y).toNat
  | .xor => k.wrap (BitVec.ofInt k.bits x ^^^ BitVec.ofInt k.bits y).toNat
  | .andNot => k.wrap (BitVec.ofInt k.bits x &&& ~~~BitVec.ofInt k.bits y).toNat
  | _ => 0

def arith (op : BinOp) (k : IntKind) (a b : Int) : Option AV :=
  match op with
  | .add => some (.int k (k.wrap (a + b)))
  | .sub => some (.int k (k.wrap (a - b)))
  | .mul => some (.int k (k.wrap (a * b)))
  | .quo => if b = 0 then none else some (.int k (k.wrap (a.tdiv b)))
  | .rem => if b = 0 then none else some (.int k (a.tmod b))
  | .eql => some (.bool (a == b))
  | .neq => some (.bool (a != b))
  | .lss => some (.bool (decide (a < b)))
  | .leq => some (.bool (decide (a ≤ b)))
  | .gtr => some (.bool (decide (a > b)))
  | .geq => some (.bool (decide (a ≥ b)))
  | .and => some (.int k (bits2 .and k a b))
  | .or => some (.int k (bits2 .or k a b))
  | .xor => some (.int k (bits2 .xor k a b))
  | .andNot => some (.int k (bits2 .andNot k a b))
  | _ => none

def shiftA (op : BinOp) (k : IntKind) (x y : Int) : Option AV :=
  if y < 0 then none else
  match op with
  | .shl => some (.int k (k.wrap (x * 2 ^ (min y.toNat k.bits))))
  | .shr => some (.int k (x.fdiv (2 ^ (min y.toNat k.bits))))
  | _ => none

def strOp (op : BinOp) (a b : List UInt8) : Option AV :=
  match op with
  | .eql => some (.bool (a == b))
  | .neq => some (.bool !(a == b))
  | .lss => some (.bool (Op.bytesLess a b))
  | .leq => some (.bool (Op.bytesLess a b || a == b))
  | .gtr => some (.bool !(Op.bytesLess a b || a == b))
  | .geq => some (.bool !(Op.bytesLess a b))
  | _ => none

def isConst : Operand → Bool
  | .const _ => true
  | _ => false

def eqA (u : UK) (cx : Bool) (a b : AV) : Option Bool :=
  match u, a, b with
  | .bool, .bool a, .bool b => some (a == b)
  | .ptr _, .nilp, .nilp => some true
  | .ptr _, .nilp, .ptr _ _ => some false
  | .ptr _, .nilp, .gptr _ _ => some false
  | .ptr _, .ptr _ _, .nilp => some false
  | .ptr _, .gptr _ _, .nilp => some false
  | .slc _, .nils, .nils => some true
  | .slc _, .nils, .slc _ _ _ _ => some false
  | .slc _, .nils, .gslc _ _ _ _ => some false
  | .slc _, .gslc _ _ _ _, .nils => some false
  | .slc _, .slc _ _ _ _, .nils => some false
  | .map _ _, .nilm, .nilm => some true
  | .map _ _, .nilm, .mp _ => some false
  | .map _ _, .mp _, .nilm => some false
  | .func, .nilf, .nilf => some true
  | .func, .nilf, .fn _ _ _ => some false
  | .func, .fn _ _ _, .nilf => some false
  | .iface, .nili, .nili => bif cx then some true else none
  | .iface, .nili, .ifc _ _ => some false
  | .iface, .ifc _ _, .nili => some false
  | _, _, _ => none

def binA (Tb : TypeId → Option TInfo) (op : BinOp) (t : TypeId) (cx : Bool) (a b : AV) : Option AV :=
  match a, b with
  | .int k x, .int k' y => match op with
    | .shl => shiftA .shl k x y
    | .shr => shiftA .shr k x y
    | op => bif kindEq k k' then arith op k x y else none
  | .str x, .str y => strOp op x y
  | a, b => match op with
    | .eql => match Tb t with
      | some i => match eqA i.uk cx a b with
        | some r => some (.bool r)
        | none => none
      | none => none
    | .neq => match Tb t with
      | some i => match eqA i.uk cx a b with
        | some r => some (.bool !r)
        | none => none
      | none => none
    | _ => none

def loadAV (i : TInfo) (cs : List AV) (off : Nat) : Option AV :=
  match i.uk.agg with
  | true => match takeN i.size (cs.drop off) with
    | some l => some (.agg l)
    | none => none
  | false => nth cs off

/-- So many cells from a place on, of memory that is only read. -/
def takeG : Nat → (Nat → Option AV) → Nat → Option (List AV)
  | 0, _, _ => some []
  | n + 1, f, o => match f o, takeG n f (o + 1) with
    | some v, some l => some (v :: l)
    | _, _ => none
theorem takeG_some : ∀ {n : Nat} {f : Nat → Option AV} {o : Nat} {l : List AV}, takeG n f o = some l → l.length = n ∧ ∀ j v, l[j]? = some v → f (o + j) = some v
  | 0, f, o, l, h => by simp [takeG] at h; subst h; simp
  | n + 1, f, o, l, h => by
    simp only [takeG] at h
    split at h
    · rename_i v l' h1 h2
      simp at h; subst h
      obtain ⟨a, b⟩ := takeG_some h2
      refine ⟨by simp [a], fun j u hj => ?_⟩
      cases j with
      | zero => simp at hj; subst hj; exact h1
      | succ j => rw [show o + (j + 1) = o + 1 + j by omega]; exact b j u (by simpa using hj)
    · simp at h
def loadG (i : TInfo) (f : Nat → Option AV) (off : Nat) : Option AV :=
  match i.uk.agg with
  | true => match takeG i.size f off with
    | some l => some (.agg l)
    | none => none
  | false => f off

def evs (fr : Frame) : List Operand → Option (List AV)
  | [] => some []
  | x :: t => match ev fr x, evs fr t with
    | some v, some l => some (v :: l)
    | _, _ => none

def convA (s d : UK) (v : AV) : Option AV :=
  match d, v with
  | .int k, .int _ n => some (.int k (k.wrap n))
  | .str, .str s' => match s with
    | .str => some (.str s')
    | _ => none
  | _, _ => none

/-- What an operation that changes nothing comes to. -/
def pureOp (Tb : TypeId → Option TInfo) (G : Nat → Nat → Option AV) (fr : Frame) (h : Heap) : Op → Option AV
  | .move x => ev fr x
  | .assign x => ev fr x
  | .pick c a b => match ev fr c with
    | some (.bool t) => match t with
      | true => ev fr a
      | false => ev fr b
    | _ => none
  | .load t p => match ev fr p, Tb t with
    | some pv, some i => match pv with
      | .gptr g off => loadG i (G g) off
      | pv => match cellsAt h pv with
        | some (cs, off) => loadAV i cs off
        | none => none
    | _, _ => none
  | .nilCheck x => match ev fr x with
    | some (.ptr a b) => some (.ptr a b)
    | some (.gptr a b) => some (.gptr a b)
    | some (.fn (.func f) a b) => some (.fn (.func f) a b)
    | _ => none
  | .binOp op t x y _ => match ev fr x, ev fr y with
    | some a, some b => binA Tb op t (isConst x || isConst y) a b
    | _, _ => none
  | .unOp op _ x => match op, ev fr x with
    | .not, some (.bool b) => some (.bool !b)
    | .neg, some (.int k n) => some (.int k (k.wrap (0 - n)))
    | .xor, some (.int k n) => some (.int k (bits2 .xor k (if k.signed then -1 else k.max) n))
    | _, _ => none
  | .convert s d x => match Tb s, Tb d, ev fr x with
    | some si, some di, some v => convA si.uk di.uk v
    | _, _, _ => none
  | .makeInterface t x => match Tb t, ev fr x with
    | some i, some v => match i.uk with
      | .iface => none
      | .other => none
      | _ => some (.ifc t v)
    | _, _ => none
  | .makeFunc f first captured => match evs fr first.toList, evs fr captured.toList with
    | some a, some b => some (.fn f a b)
    | _, _ => none
  | .fieldAddr t x f => match Tb t, ev fr x with
    | some i, some v => match i.uk with
      | .strct fs => match nth fs f with
        | some (off, ft) => match Tb ft with
          | some fi => match fi.size, v with
            | 0, _ => none
            | _, .ptr id o => some (.ptr id (o + off))
            | _, .gptr g o => some (.gptr g (o + off))
            | _, _ => none
          | none => none
        | none => none
      | _ => none
    | _, _ => none
  | .field t x f => match Tb t, ev fr x with
    | some i, some (.agg cs) => match i.uk with
      | .strct fs => match nth fs f with
        | some (off, ft) => match Tb ft with
          | some fi => loadAV fi cs off
          | none => none
        | none => none
      | _ => none
    | _, _ => none
  | .extract x ix => match ev fr x with
    | some (.tup vs) => nth vs ix
    | _ => none
  | .call { callee := .builtin .len, args := args, argTypes := ts } => match args.toList, ts.toList with
    | [x], [t] => match Tb t, ev fr x with
      | some i, some v => match i.uk, v with
        | .str, .str s => some (.int .i64 (s.length : Int))
        | .slc _, .slc _ _ n _ => some (.int .i64 (n : Int))
        | .slc _, .gslc _ _ n _ => some (.int .i64 (n : Int))
        | .slc _, .nils => some (.int .i64 0)
        | .arr n _, _ => some (.int .i64 (n : Int))
        | _, _ => none
      | _, _ => none
    | _, _ => none
  | .call { callee := .builtin .cap, args := args, argTypes := ts } => match args.toList, ts.toList with
    | [x], [t] => match Tb t, ev fr x with
      | some i, some v => match i.uk, v with
        | .slc _, .slc _ _ _ (.exact c) => some (.int .i64 (c : Int))
        | .slc _, .gslc _ _ _ c => some (.int .i64 (c : Int))
        | .slc _, .nils => some (.int .i64 0)
        | _, _ => none
      | _, _ => none
    | _, _ => none
  | _ => none

section
variable {P : Program} {Tb : TypeId → Option TInfo} {G : Nat → Nat → Option AV} {μ κ : Nat → Nat} {h : Heap} {w : World} {N : Nat} {fr : Frame} {a : Act}

theorem run_arith {op : BinOp} {t : TypeId} {k : IntKind} {x y : Int} {v : AV} (hv : arith op k x y = some v) (hs : op ≠ .shl) (hr : op ≠ .shr) (n : Nat) :
    (binOp op t (.int k x) (.int k y)).run P w = .ok (conc μ κ v) w ∧ v.le n := by
  cases op <;> simp [arith] at hv hs hr <;> first
    | (subst hv; exact ⟨by simp [binOp, Op.intArith, Op.intCmp, Op.intBits, bits2, conc], trivial⟩)
    | (obtain ⟨hb, rfl⟩ := hv; exact ⟨by simp [binOp, Op.intDiv, hb, conc], trivial⟩)

theorem run_shiftA {op : BinOp} {t : TypeId} {k k' : IntKind} {x y : Int} {v : AV} (hv : shiftA op k x y = some v) (n : Nat) :
    (binOp op t (.int k x) (.int k' y)).run P w = .ok (conc μ κ v) w ∧ v.le n := by
  unfold shiftA at hv
  split at hv
  · simp at hv
  · rename_i hy
    cases op <;> simp at hv <;> subst hv <;> exact ⟨by simp [binOp, Op.shift, hy, conc], trivial⟩

theorem run_strOp {op : BinOp} {t : TypeId} {x y : List UInt8} {v : AV} (hv : strOp op x y = some v) (n : Nat) :
    (binOp op t (.string ⟨x.toArray⟩) (.string ⟨y.toArray⟩)).run P w = .ok (conc μ κ v) w ∧ v.le n := by
  cases op <;> simp [strOp] at hv <;> subst hv <;> exact ⟨by simp [binOp, Op.stringOp, conc], trivial⟩

theorem run_eqAd (dep : Nat) {t : TypeId} {i : TInfo} {ti : TypeInfo} {d : TypeDesc} (ht : TOk P t i ti d) {cx : Bool} {x y : AV} {r : Bool} (hv : eqA i.uk cx x y = some r) :
    (Op.equalIn (dep + 1) t (conc μ κ x) (conc μ κ y)).run P w = .ok r w := by
  have hu := ht.uk
  have hr := ht.run_underlying w
  have key : ∀ (X Y : Value) (f : TypeDesc → Sem Bool), (underlying t >>= f).run P w = (f d).run P w := by
    intro X Y f; rw [Sem.run_bind, hr]; rfl
  rw [Op.equalIn, key (conc μ κ x) (conc μ κ y)]
  clear key hr
  unfold eqA at hv
  split at hv
  all_goals (try (simp at hv; done))
  all_goals
    rename_i he
    simp only [he, ukRel] at hu
    first
      | subst hu
      | obtain ⟨_, rfl⟩ := hu
      | obtain ⟨_, _, _, rfl⟩ := hu
    first
      | (simp only [Option.some.injEq] at hv; subst hv; rfl)
      | (simp only [Option.some.injEq] at hv; subst hv; rename_i cap; cases cap <;> rfl)
      | (cases cx
         · simp at hv
         · simp only [cond_true, Option.some.injEq] at hv; subst hv; rfl)

theorem run_eqA {t : TypeId} {i : TInfo} {ti : TypeInfo} {d : TypeDesc} (ht : TOk P t i ti d) {cx : Bool} {x y : AV} {r : Bool} (hv : eqA i.uk cx x y = some r) :
    (Op.equal t (conc μ κ x) (conc μ κ y)).run P w = .ok r w := run_eqAd 9999 ht hv

theorem eqA_shape {u : UK} {ox oy : Operand} {x y : AV} {r : Bool} (hv : eqA u (isConst ox || isConst oy) x y = some r) (t : TypeId) (op : BinOp) :
    binOp .eql t (conc μ κ x) (conc μ κ y) = (do pure (.bool (← Op.equal t (conc μ κ x) (conc μ κ y)))) ∧
    binOp .neq t (conc μ κ x) (conc μ κ y) = (do pure (.bool (!(← Op.equal t (conc μ κ x) (conc μ κ y))))) ∧
    eqGuard op t ox oy (conc μ κ x) (conc μ κ y) = pure () := by
  unfold eqA at hv
  split at hv <;> first
    | (simp at hv; done)
    | (refine ⟨rfl, rfl, ?_⟩; (cases op <;> rfl); done)
    | (rename_i cap; cases cap <;> (refine ⟨rfl, rfl, ?_⟩; (cases op <;> rfl); done))
    | (refine ⟨rfl, rfl, ?_⟩
       cases hc : (isConst ox || isConst oy) with
       | false => simp [hc] at hv
       | true => cases ox <;> cases oy <;> simp [isConst] at hc <;> (cases op <;> rfl))

theorem run_binA (hT : TbOk P Tb) {op : BinOp} {t : TypeId} {ox oy : Operand} {x y v : AV} (hv : binA Tb op t (isConst ox || isConst oy) x y = some v) (n : Nat) :
    ((do eqGuard op t ox oy (conc μ κ x) (conc μ κ y); binOp op t (conc μ κ x) (conc μ κ y)) : Sem Value).run P w = .ok (conc μ κ v) w ∧ v.le n := by
  unfold binA at hv
  split at hv
  · rename_i k x k' y
    have he : eqGuard op t ox oy (conc μ κ (.int k x)) (conc μ κ (.int k' y)) = pure () := by simp only [conc, eqGuard_at_int]
    rw [he]
    simp only [Sem.run_bind, Sem.run_pure, Result.andThen_ok]
    cases op
    case shl => exact run_shiftA hv n
    case shr => exact run_shiftA hv n
    all_goals
      simp only at hv
      cases hk : kindEq k k' with
      | false => simp [hk] at hv
      | true => simp only [hk, cond_true] at hv; cases kindEq_eq hk; exact run_arith hv (by simp) (by simp) n
  · rename_i x y
    have he : eqGuard op t ox oy (conc μ κ (.str x)) (conc μ κ (.str y)) = pure () := by simp only [conc, eqGuard_at_string]
    rw [he]
    simp only [Sem.run_bind, Sem.run_pure, Result.andThen_ok]
    exact run_strOp hv n
  · cases op <;> simp at hv
    all_goals
      split at hv
      · rename_i i hi
        obtain ⟨ti, d, ht⟩ := hT t i hi
        split at hv
        · rename_i r hr
          simp at hv; subst hv
          obtain ⟨h1, h2, h3⟩ := eqA_shape (μ := μ) (κ := κ) hr t .eql
          obtain ⟨_, _, h4⟩ := eqA_shape (μ := μ) (κ := κ) hr t .neq
          refine ⟨?_, trivial⟩
          simp only [h1, h2, h3, h4, Sem.run_bind, Sem.run_pure, Result.andThen_ok, run_eqA (P := P) (w := w) ht hr, conc]
        · simp at hv
      · simp at hv

theorem evs_sound (hf : FRel N μ κ fr h.length a) : ∀ {l : List Operand} {vs : List AV}, evs fr l = some vs → l.map a.eval = concs μ κ vs ∧ AVs.le h.length vs
  | [], vs, e => by simp [evs] at e; subst e; exact ⟨rfl, trivial⟩
  | x :: t, vs, e => by
    simp only [evs] at e
    cases hx : ev fr x with
    | none => simp [hx] at e
    | some v =>
      cases ht : evs fr t with
      | none => simp [hx, ht] at e
      | some l =>
        simp [hx, ht] at e; subst e
        have p := ev_sound hf hx
        have q := evs_sound hf ht
        exact ⟨by simp [concs, p.1, q.1], p.2, q.2⟩

theorem run_loadAV {t : TypeId} {i : TInfo} {ti : TypeInfo} {d : TypeDesc} (ht : TOk P t i ti d) {b off : Nat} {cs : List AV} (hc : ∀ i v, cs[i]? = some v → w.cell? ⟨b, i, none⟩ = some (conc μ κ v)) {v : AV} (hv : loadAV i cs off = some v) (n : Nat) (hl : AVs.le n cs) :
    (loadVar t ⟨b, off, none⟩).run P w = .ok (conc μ κ v) w ∧ v.le n := by
  unfold loadAV at hv
  simp only [loadVar, Sem.run_bind, ht.run_agg, Result.andThen_ok]
  cases ha : i.uk.agg with
  | true =>
    simp only [ha] at hv
    cases hk : takeN i.size (cs.drop off) with
    | none => simp [hk] at hv
    | some l =>
      simp [hk] at hv; subst hv
      obtain ⟨e1, e2, e3⟩ := takeN_some hk
      have hl2 : ∀ j u, (concs μ κ l)[j]? = some u → w.cell? ((⟨b, off, none⟩ : Addr).add j) = some u := by
        intro j u hu
        rw [Addr.add_lit]
        rw [concs_get, Option.map_eq_some_iff] at hu
        obtain ⟨x, hx, rfl⟩ := hu
        refine hc _ _ ?_
        rw [e1, List.getElem?_take] at hx
        split at hx
        · rw [List.getElem?_drop] at hx; exact hx
        · simp at hx
      have hr := run_loadCells_list (P := P) w ⟨b, off, none⟩ (concs μ κ l) hl2
      rw [concs_length, e2] at hr
      refine ⟨by simp [ht.run_size, hr, conc], ?_⟩
      show AVs.le n l
      rw [AVs.le_iff] at hl ⊢
      intro x hx
      rw [e1] at hx
      exact hl x (List.mem_of_mem_drop (List.mem_of_mem_take hx))
  | false =>
    simp only [ha] at hv
    rw [nth_eq] at hv
    have := hc _ _ hv
    refine ⟨by simp [this], ?_⟩
    rw [AVs.le_iff] at hl
    exact hl v (List.mem_of_getElem? hv)

theorem run_loadG {t : TypeId} {i : TInfo} {ti : TypeInfo} {d : TypeDesc} (ht : TOk P t i ti d) {b off : Nat} {f : Nat → Option AV} (hc : ∀ j v, f j = some v → w.cell? ⟨b, j, none⟩ = some (conc μ κ v) ∧ v.le 0) {v : AV} (hv : loadG i f off = some v) (n : Nat) :
    (loadVar t ⟨b, off, none⟩).run P w = .ok (conc μ κ v) w ∧ v.le n := by
  unfold loadG at hv
  simp only [loadVar, Sem.run_bind, ht.run_agg, Result.andThen_ok]
  cases ha : i.uk.agg with
  | true =>
    simp only [ha] at hv
    cases hk : takeG i.size f off with
    | none => simp [hk] at hv
    | some l =>
      simp [hk] at hv; subst hv
      obtain ⟨e2, e1⟩ := takeG_some hk
      have hl2 : ∀ j u, (concs μ κ l)[j]? = some u → w.cell? ((⟨b, off, none⟩ : Addr).add j) = some u := by
        intro j u hu
        rw [Addr.add_lit]
        rw [concs_get, Option.map_eq_some_iff] at hu
        obtain ⟨x, hx, rfl⟩ := hu
        exact (hc _ _ (e1 j x hx)).1
      have hr := run_loadCells_list (P := P) w ⟨b, off, none⟩ (concs μ κ l) hl2
      rw [concs_length, e2] at hr
      refine ⟨by simp [ht.run_size, hr, conc], ?_⟩
      show AVs.le n l
      rw [AVs.le_iff]
      intro x hx
      obtain ⟨j, hj⟩ := List.getElem?_of_mem hx
      exact AV.le_mono (Nat.zero_le _) _ (hc _ _ (e1 j x hj)).2
  | false =>
    simp only [ha] at hv
    have := hc _ _ hv
    exact ⟨by simp [this.1], AV.le_mono (Nat.zero_le _) _ this.2⟩

theorem part_sound {t : TypeId} {i : TInfo} {ti : TypeInfo} {d : TypeDesc} (ht : TOk P t i ti d) {off : Nat} {cs : List AV} {v : AV} (hv : loadAV i cs off = some v) (n : Nat) (hl : AVs.le n cs) :
    (part t (concs μ κ cs).toArray off).run P w = .ok (conc μ κ v) w ∧ v.le n := by
  unfold loadAV at hv
  simp only [part, Sem.run_bind, ht.run_agg, Result.andThen_ok]
  cases ha : i.uk.agg with
  | true =>
    simp only [ha] at hv
    cases hk : takeN i.size (cs.drop off) with
    | none => simp [hk] at hv
    | some l =>
      simp [hk] at hv; subst hv
      obtain ⟨e1, e2, e3⟩ := takeN_some hk
      refine ⟨?_, ?_⟩
      · simp only [if_true, Sem.run_bind, ht.run_size, Result.andThen_ok, Sem.run_pure, conc]
        congr 2
        apply Array.ext'
        simp only [Array.toList_extract, List.toList_toArray, List.extract_eq_take_drop, e1, concs_map, List.map_take, List.map_drop]
        simp
      show AVs.le n l
      rw [AVs.le_iff] at hl ⊢
      intro x hx
      rw [e1] at hx
      exact hl x (List.mem_of_mem_drop (List.mem_of_mem_take hx))
  | false =>
    simp only [ha] at hv
    rw [nth_eq] at hv
    refine ⟨by simp [concs_get, hv], ?_⟩
    rw [AVs.le_iff] at hl
    exact hl v (List.mem_of_getElem? hv)
end
end Go.Fm
