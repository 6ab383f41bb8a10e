/- FM, a program logic over the given model with abstract values and an abstract heap: general lemmas. No statement is closed in this text. -/
import Derived.Test.YtcimapbdkmdcpaaGreatDoorFmO
set_option linter.unusedVariables false
set_option linter.unusedSimpArgs false
namespace Go.Fm
open Go

/-- Is an operation wanted? -/
def gw (all : Array Oper) (fr : Frame) (o : Oper) : Option Bool :=
  match o.guard with
  | none => some true
  | some (j, w) => match gdst all j with
    | some d => match Nat.beq d dslot with
      | true => none
      | false => match get fr d with
        | some (.bool b) => match b, w with
          | true, true => some true
          | false, false => some true
          | _, _ => some false
        | some (.tup _) => some false
        | _ => none
    | none => none

def opnd : Operand → List Nat
  | .tmp t => [t]
  | _ => []
def opndO : Option Operand → List Nat
  | some (.tmp t) => [t]
  | _ => []
def opnds : List Operand → List Nat
  | [] => []
  | .tmp t :: r => t :: opnds r
  | _ :: r => opnds r
def opndP : List (Nat × Operand) → List Nat
  | [] => []
  | (_, .tmp t) :: r => t :: opndP r
  | _ :: r => opndP r
def callT (c : Call) : List Nat := match c.callee with
  | .value f => opnd f ++ opnds c.args.toList
  | .invoke r _ => opnd r ++ opnds c.args.toList
  | .builtin _ => opnds c.args.toList

/-- What an operation looks at (a choice: nothing depends on its being right). -/
def tmpsOf : Op → List Nat
  | .move x | .assign x | .box _ x | .load _ x | .nilCheck x | .unOp _ _ x | .convert _ _ x | .sliceToArrayPointer _ x | .makeInterface _ x
  | .makeChan _ x | .fieldAddr _ x _ | .field _ x _ | .range _ x | .next x _ | .entry x | .typeAssert x _ _ _ | .extract x _ | .panic x | .recv _ x _ => opnd x
  | .pick c a b => opnds [c, a, b]
  | .build _ ps | .buildSlice _ _ ps => opndP ps.toList
  | .store _ a v | .binOp _ _ a v _ | .makeSlice _ a v | .indexAddr _ a v | .index _ a v | .lookup _ a v _ | .mapEntry _ a v => opnds [a, v]
  | .makeFunc _ first captured => opnds first.toList ++ opnds captured.toList
  | .makeMap _ r => opndO r
  | .slice _ x l h m => opnd x ++ (opndO l ++ (opndO h ++ opndO m))
  | .mapUpdate _ m k v | .entryStore _ m k v | .insert _ m k v => opnds [m, k, v]
  | .call c | .defer c => callT c
  | _ => []
def looksT (all : Array Oper) (o : Oper) : List Nat :=
  match o.guard with
  | none => tmpsOf o.op
  | some (j, _) => match gdst all j with
    | some d => d :: tmpsOf o.op
    | none => tmpsOf o.op

def restr0 (fr : Frame) : List Nat → Frame
  | [] => []
  | t :: r => match get fr t with
    | some v => (t, v) :: restr0 fr r
    | none => restr0 fr r
/-- A frame of a few slots. -/
def restr (fr : Frame) (ts : List Nat) : Frame := match get fr dslot with
  | some v => (dslot, v) :: restr0 fr ts
  | none => restr0 fr ts

theorem restr0_get : ∀ {fr : Frame} {ts : List Nat} {t : Nat} {v : AV}, get (restr0 fr ts) t = some v → t ∈ ts ∧ get fr t = some v
  | fr, [], t, v, h => by simp [restr0, get] at h
  | fr, u :: r, t, v, h => by
    simp only [restr0] at h
    split at h
    · rename_i x hx
      simp only [get] at h
      by_cases e : u = t
      · subst e; simp at h; subst h; exact ⟨List.mem_cons_self .., hx⟩
      · rw [beq_false_of_ne e, cond_false] at h
        have := restr0_get h; exact ⟨List.mem_cons_of_mem _ this.1, this.2⟩
    · have := restr0_get h; exact ⟨List.mem_cons_of_mem _ this.1, this.2⟩
theorem restr_get {fr : Frame} {ts : List Nat} {t : Nat} {v : AV} (h : get (restr fr ts) t = some v) (ht : t ≠ dslot) : t ∈ ts ∧ get fr t = some v := by
  unfold restr at h
  split at h
  · simp only [get] at h
    rw [beq_false_of_ne (Ne.symm ht), cond_false] at h
    exact restr0_get h
  · exact restr0_get h
theorem restr_dslot {fr : Frame} {ts : List Nat} (hn : dslot ∉ ts) : get (restr fr ts) dslot = get fr dslot := by
  unfold restr
  split
  · rename_i v hv; simp [get, hv]
  · rename_i hv
    rw [hv]
    cases e : get (restr0 fr ts) dslot with
    | none => rfl
    | some v => exact absurd (restr0_get e).1 hn

section
variable {P : Program} {Tb : TypeId → Option TInfo} {G : Nat → Nat → Option AV} {N n : Nat} {all : Array Oper} {rest : List Oper} {Q : AExit → Frame → Heap → Prop} {fr : Frame} {h : Heap} {o : Oper}

theorem gw_ok {a : Act} {μ κ : Nat → Nat} {m : Nat} {b : Bool} (hf : FRel N μ κ fr m a) (hg : gw all fr o = some b) : Region.wanted o (yielded all a.tmps) = b := by
  unfold gw at hg
  split at hg
  · rename_i e; simp at hg; subst hg; simp [Region.wanted, e]
  · rename_i j w e
    split at hg
    · rename_i d hj
      split at hg
      · simp at hg
      · rename_i hne
        have hne : d ≠ dslot := by intro e; subst e; simp at hne
        have e2 : (all[j]?).bind (·.dst) = some d := by
          unfold gdst at hj
          rw [nth_eq] at hj
          cases ho : all[j]? with
          | none => simp [ho] at hj
          | some o => simp [ho] at hj; simp [hj]
        split at hg
        · rename_i c hc
          have := (hf.slot d _ hc hne).1
          have hy : yielded all a.tmps j = some c := by simp [yielded, e2, this, conc]
          cases c <;> cases w <;> simp at hg <;> subst hg <;> simp [Region.wanted, e, hy]
        · rename_i vs hc
          have := (hf.slot d _ hc hne).1
          have hy : yielded all a.tmps j = none := by simp [yielded, e2, this, conc]
          simp at hg; subst hg; simp [Region.wanted, e, hy]
        · simp at hg
    · simp at hg

/-- An operation that is not wanted. -/
theorem ops_skip (hg : gw all fr o = some false) (hd : okD N o.dst = true) (k : opsWP P G N n all rest Q (put fr o.dst (.tup [])) h) : opsWP P G N n all (o :: rest) Q fr h := by
  intro L hL μ₀ κ₀ h₀ w₀ μ κ a w hn hx hh hf
  obtain ⟨i, R, rfl, hi, hR⟩ := cons_split hL
  simp only [wpOps, hi, gw_ok hf hg, if_false, Bool.false_eq_true]
  have := hf.put hd (v := .tup []) trivial
  exact k R hR μ₀ κ₀ h₀ w₀ μ κ _ w hn hx hh this
theorem ops_go (hg : gw all fr o = some true) (k : opsGo P G N n all o rest Q fr h) : opsWP P G N n all (o :: rest) Q fr h := by
  intro L hL μ₀ κ₀ h₀ w₀ μ κ a w hn hx hh hf
  obtain ⟨i, R, rfl, hi, hR⟩ := cons_split hL
  simp only [wpOps, hi, gw_ok hf hg, if_true]
  exact .inl (k R hR μ₀ κ₀ h₀ w₀ μ κ a w hn hx hh hf)

/-- What one operation does: a value, or none, and the heap behind it. -/
def OpTo (P : Program) (G : Nat → Nat → Option AV) (o : Oper) (fr : Frame) (h : Heap) (v : Option AV) (h' : Heap) : Prop :=
  (v = none → o.dst = none) ∧ ∀ N μ κ a w (K : Act → World → Prop) (X : Exit → Act → World → Prop), HRel P G μ κ h w → FRel N μ κ fr h.length a →
    (∀ μ' κ' w', HRel P G μ' κ' h' w' → Ext μ κ μ' κ' h h' w w' → (∀ x, v = some x → x.le h'.length → K (a.put o.dst (conc μ' κ' x)) w') ∧ (v = none → K a w')) → o.wp P a w K X

theorem OpTo.step {v : AV} {h' : Heap} (hs : StepTo P G o fr h v h') : OpTo P G o fr h (some v) h' := by
  refine ⟨by simp, fun N μ κ a w K X hh hf k => ?_⟩
  obtain ⟨μ', κ', w', hr, hh', hv, hx'⟩ := hs N μ κ a w hh hf
  simp only [Oper.wp, hr, Oper.upon]
  exact (k μ' κ' w' hh' hx').1 v rfl hv
theorem OpTo.store {h' : Heap} (hd : o.dst = none) (hs : StoreTo P G o fr h h') : OpTo P G o fr h none h' := by
  refine ⟨fun _ => hd, fun N μ κ a w K X hh hf k => ?_⟩
  obtain ⟨μ', κ', w', hr, hh', hx'⟩ := hs N μ κ a w hh hf
  simp only [Oper.wp, hr, Oper.upon, hd, Act.put]
  exact (k μ' κ' w' hh' hx').2 rfl
theorem OpTo.ret {c : Call} {f : FuncId} {as : List AV} {v : AV} {h' : Heap} (ho : o.op = .call c) (hc : calleeOf fr c = some (f, as)) (hk : FnOk P f) (hs : RetTo P G f as h v h') : OpTo P G o fr h (some v) h' := by
  refine ⟨by simp, fun N μ κ a w K X hh hf k => ?_⟩
  have r := callee_run (P := P) (w := w) hf hc hk ho
  simp only [Oper.wp, r.1, Oper.upon]
  refine (hs μ κ w hh r.2).mono ?_
  rintro e w' ⟨μ', κ', e', h'', ⟨rfl, rfl⟩, er, hh', hx'⟩
  obtain ⟨rfl, hv⟩ := er
  exact (k μ' κ' w' hh' hx').1 v rfl hv

/-- How an operation of an open order may stand: not wanted; of a value that no memory changes, or none that only grows; one that changes memory, or makes more of it. -/
inductive Kd where
  | s
  | q (b : Bool)
  | c (ext : Bool)

def baseH (h0 : Heap) : Bool → Heap
  | true => h0
  | false => []

def KOk (P : Program) (G : Nat → Nat → Option AV) (all : Array Oper) (h0 : Heap) (o : Oper) (fr : Frame) (h : Heap) (v : Option AV) (h' : Heap) : Kd → Prop
  | .s => gw all (restr fr (looksT all o)) o = some false ∧ v = some (.tup []) ∧ h' = h
  | .q b => gw all (restr fr (looksT all o)) o = some true ∧ h' = h ∧ ∀ g, OpTo P G o (restr fr (looksT all o)) (baseH h0 b ++ g) v (baseH h0 b ++ g)
  | .c ext => gw all (restr fr (looksT all o)) o = some true ∧ OpTo P G o (restr fr (looksT all o)) h v h' ∧ (ext = true → ∃ g, h' = h ++ g)

def putO (fr : Frame) (d : Option Nat) : Option AV → Frame
  | some v => put fr d v
  | none => fr

/-! The order that the edges ask for. -/
def bit (a j : Nat) : Bool := Nat.testBit a j
def ancOf (as : List Nat) : List Edge → Nat
  | [] => 0
  | e :: t => bif Region.binds .any e then Nat.lor (Nat.lor (2 ^ e.on) (match nth as e.on with | some x => x | none => 0)) (ancOf as t) else ancOf as t
def ancs : List Nat → List Oper → List Nat
  | as, [] => as
  | as, o :: t => ancs (as ++ [ancOf as o.after.toList]) t

theorem ancOf_bit {as : List Nat} : ∀ {es : List Edge} {j : Nat}, bit (ancOf as es) j = true → ∃ e ∈ es, Region.binds .any e = true ∧ (j = e.on ∨ ∃ x, as[e.on]? = some x ∧ bit x j = true)
  | [], j, h => by simp [ancOf, bit] at h
  | e :: t, j, h => by
    simp only [ancOf] at h
    cases hb : Region.binds .any e with
    | true =>
      simp only [hb, cond_true, bit] at h
      have h : Nat.testBit ((2 ^ e.on ||| (match nth as e.on with | some x => x | none => 0)) ||| ancOf as t) j = true := h
      rw [Nat.testBit_or, Nat.testBit_or, Nat.testBit_two_pow] at h
      simp only [Bool.or_eq_true, decide_eq_true_eq] at h
      rcases h with (h | h) | h
      · exact ⟨e, List.mem_cons_self .., hb, .inl h.symm⟩
      · split at h
        · rename_i x hx
          rw [nth_eq] at hx
          exact ⟨e, List.mem_cons_self .., hb, .inr ⟨x, hx, h⟩⟩
        · simp at h
      · obtain ⟨e', he', r⟩ := ancOf_bit (es := t) h
        exact ⟨e', List.mem_cons_of_mem _ he', r⟩
    | false =>
      simp only [hb, cond_false] at h
      obtain ⟨e', he', r⟩ := ancOf_bit (es := t) h
      exact ⟨e', List.mem_cons_of_mem _ he', r⟩

theorem ancs_spec : ∀ (os : List Oper) (as : List Nat), ∃ l : List Nat, ancs as os = as ++ l ∧ l.length = os.length ∧ ∀ i o, os[i]? = some o → (as ++ l)[as.length + i]? = some (ancOf ((as ++ l).take (as.length + i)) o.after.toList)
  | [], as => ⟨[], by simp [ancs], rfl, fun i o h => by simp at h⟩
  | o :: t, as => by
    obtain ⟨l, h1, h2, h3⟩ := ancs_spec t (as ++ [ancOf as o.after.toList])
    refine ⟨ancOf as o.after.toList :: l, by simp [ancs, h1], by simp [h2], ?_⟩
    intro i o' hi
    cases i with
    | zero => simp at hi; subst hi; simp
    | succ i =>
      simp at hi
      have := h3 i o' hi
      simp only [List.append_assoc, List.singleton_append, List.length_append, List.length_cons, List.length_nil] at this
      have e : as.length + (0 + 1) + i = as.length + (i + 1) := by omega
      rw [e] at this
      exact this

theorem anc_in {os : List Oper} {S : Nat → Prop} (hlt : ∀ i o, os[i]? = some o → ∀ e ∈ o.after.toList, Region.binds .any e = true → e.on < i)
    (hS : ∀ i o, S i → os[i]? = some o → ∀ e ∈ o.after.toList, Region.binds .any e = true → S e.on) :
    ∀ (i : Nat) (o : Oper) (x : Nat), os[i]? = some o → (ancs [] os)[i]? = some x → (∀ e ∈ o.after.toList, Region.binds .any e = true → S e.on) → ∀ j, bit x j = true → S j := by
  obtain ⟨l, h1, h2, h3⟩ := ancs_spec os []
  simp only [List.nil_append, List.length_nil, Nat.zero_add] at h1 h3
  rw [h1]
  intro i
  induction i using Nat.strongRecOn with
  | _ i ih =>
    intro o x ho hx hp j hj
    have := h3 i o ho
    rw [hx] at this
    simp at this; subst this
    obtain ⟨e, he, hb, r⟩ := ancOf_bit hj
    rcases r with rfl | ⟨y, hy, hyj⟩
    · exact hp e he hb
    · have hel := hlt i o ho e he hb
      rw [List.getElem?_take_of_lt hel] at hy
      have hlo : e.on < os.length := by have := lt_of_get ho; omega
      have ho' : os[e.on]? = some os[e.on] := List.getElem?_eq_getElem hlo
      exact ih e.on hel _ y ho' hy (fun e' he' hb' => hS _ _ (hp e he hb) ho' e' he' hb') j hyj

def allI {α : Type} (f : Nat → α → Bool) : Nat → List α → Bool
  | _, [] => true
  | i, x :: t => bif f i x then allI f (i + 1) t else false
theorem allI_spec {α : Type} {f : Nat → α → Bool} : ∀ {l : List α} {k : Nat}, allI f k l = true → ∀ i x, l[i]? = some x → f (k + i) x = true
  | [], k, h, i, x, hi => by simp at hi
  | y :: t, k, h, i, x, hi => by
    simp only [allI] at h
    cases e : f k y with
    | false => simp [e] at h
    | true =>
      simp only [e, cond_true] at h
      cases i with
      | zero => simp at hi; subst hi; exact e
      | succ i =>
        have := allI_spec h i x (by simpa using hi)
        rwa [Nat.add_right_comm] at this

def Kd.isC : Kd → Bool
  | .c _ => true
  | _ => false
def Kd.isM : Kd → Bool
  | .c false => true
  | _ => false
def Kd.isQ : Kd → Bool
  | .q true => true
  | _ => false

def dstIn : Option Nat → List Nat → Bool
  | none, _ => false
  | some _, [] => false
  | some d, t :: r => bif Nat.beq d t then true else dstIn (some d) r
theorem dstIn_spec {d : Nat} : ∀ {ts : List Nat}, d ∈ ts → dstIn (some d) ts = true
  | t :: r, h => by
    simp only [dstIn]
    rcases List.mem_cons.1 h with rfl | h
    · simp
    · cases Nat.beq d t
      · exact dstIn_spec h
      · rfl
def dstEq : Option Nat → Option Nat → Bool
  | some d, some e => Nat.beq d e
  | _, _ => false

def edgesLt (i : Nat) : List Edge → Bool
  | [] => true
  | e :: t => bif (bif Region.binds .any e then Nat.blt e.on i else true) then edgesLt i t else false
theorem edgesLt_spec {i : Nat} : ∀ {es : List Edge}, edgesLt i es = true → ∀ e ∈ es, Region.binds .any e = true → e.on < i
  | e :: t, h, e', he', hb => by
    simp only [edgesLt] at h
    rcases List.mem_cons.1 he' with rfl | he'
    · cases hl : Nat.blt e'.on i with
      | true => simpa [Nat.blt_eq] using hl
      | false => simp [hb, hl] at h
    · cases hc : (bif Region.binds .any e then Nat.blt e.on i else true) with
      | true => simp only [hc, cond_true] at h; exact edgesLt_spec h e' he' hb
      | false => simp [hc] at h

/-- One operation against another one. -/
def chk2 (ts : List Nat) (d : Option Nat) (k : Kd) (x i j : Nat) (oj : Oper) (kj : Kd) (xj : Nat) : Bool :=
  bif (bif dstIn oj.dst ts then (bif bit x j then true else (bif Nat.beq i j then true else bit xj i)) else true) then
    bif Nat.blt j i then
      bif dstEq d oj.dst then false else
      bif (bif k.isC then (bif kj.isC then bit x j else true) else true) then
        bif (bif k.isM then (bif kj.isQ then bit x j else true) else true) then
          (bif k.isQ then !kj.isM else true)
        else false
      else false
    else true
  else false

def rows : List Oper → List Kd → List Nat → List (Oper × Kd × Nat)
  | o :: os, k :: ks, x :: xs => (o, k, x) :: rows os ks xs
  | _, _, _ => []
theorem rows_get : ∀ {os : List Oper} {ks : List Kd} {xs : List Nat} {i : Nat} {o : Oper} {k : Kd} {x : Nat}, os[i]? = some o → ks[i]? = some k → xs[i]? = some x → (rows os ks xs)[i]? = some (o, k, x)
  | o' :: os, k' :: ks, x' :: xs, 0, o, k, x, h1, h2, h3 => by simp at h1 h2 h3; simp [rows, h1, h2, h3]
  | o' :: os, k' :: ks, x' :: xs, i + 1, o, k, x, h1, h2, h3 => by simp at h1 h2 h3; simp [rows, rows_get h1 h2 h3]
  | [], ks, xs, i, o, k, x, h1, h2, h3 => by simp at h1
  | o' :: os, [], xs, i, o, k, x, h1, h2, h3 => by simp at h2
  | o' :: os, k' :: ks, [], i, o, k, x, h1, h2, h3 => by simp at h3

def chk (all : Array Oper) (ks : List Kd) : Bool :=
  let l := rows all.toList ks (ancs [] all.toList)
  allI (fun i (r : Oper × Kd × Nat) => bif edgesLt i r.1.after.toList then
    (bif dstIn (some dslot) (looksT all r.1) then false else allI (fun j (s : Oper × Kd × Nat) => chk2 (looksT all r.1) r.1.dst r.2.1 r.2.2 i j s.1 s.2.1 s.2.2) 0 l) else false) 0 l

/-- Operations in an open order: what is left of them. -/
def DrK (P : Program) (G : Nat → Nat → Option AV) (N : Nat) (all : Array Oper) (h0 : Heap) (os : List Oper) (acc : List Kd) (Q : Frame → Heap → Prop) (fr : Frame) (h : Heap) : Prop :=
  ∃ (F : Nat → Frame) (H : Nat → Heap) (V : Nat → Option AV) (K : Nat → Kd), F 0 = fr ∧ H 0 = h ∧
    (∀ i o, os[i]? = some o → KOk P G all h0 o (F i) (H i) (V i) (H (i + 1)) (K i) ∧ okD N o.dst = true ∧ F (i + 1) = putO (F i) o.dst (V i)) ∧
    chk all (acc.reverse ++ (List.range os.length).map K) = true ∧ Q (F os.length) (H os.length)

theorem DrK.nil {h0 : Heap} {acc : List Kd} {R : Frame → Heap → Prop} (hc : chk all acc.reverse = true) (q : R fr h) : DrK P G N all h0 [] acc R fr h :=
  ⟨fun _ => fr, fun _ => h, fun _ => none, fun _ => .s, rfl, rfl, fun i o hi => by simp at hi, by simpa using hc, q⟩

theorem DrK.cons {h0 h' : Heap} {acc : List Kd} {R : Frame → Heap → Prop} {v : Option AV} {k : Kd} (hk : KOk P G all h0 o fr h v h' k) (hd : okD N o.dst = true) (hr : DrK P G N all h0 rest (k :: acc) R (putO fr o.dst v) h') : DrK P G N all h0 (o :: rest) acc R fr h := by
  obtain ⟨F, H, V, K, e1, e2, e3, e4, e5⟩ := hr
  refine ⟨fun | 0 => fr | i + 1 => F i, fun | 0 => h | i + 1 => H i, fun | 0 => v | i + 1 => V i, fun | 0 => k | i + 1 => K i, rfl, rfl, ?_, ?_, e5⟩
  · intro i o' hi
    cases i with
    | zero => simp at hi; subst hi; exact ⟨by simpa [e2] using hk, hd, e1⟩
    | succ i => simp at hi; exact e3 i o' hi
  · have : (List.range (o :: rest).length).map (fun | 0 => k | i + 1 => K i : Nat → Kd) = k :: (List.range rest.length).map K := by
      rw [List.length_cons, List.range_succ_eq_map]
      simp [Function.comp_def]
    rw [this]
    simpa using e4
end
end Go.Fm
