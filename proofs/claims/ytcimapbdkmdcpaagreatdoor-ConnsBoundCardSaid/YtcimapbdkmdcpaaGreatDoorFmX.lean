/- FM, a program logic over the given model with abstract values and an abstract heap: general lemmas. No statement is closed in this text. -/
import Derived.Test.YtcimapbdkmdcpaaGreatDoorFmW
import Derived.LoopN
set_option linter.unusedVariables false
set_option linter.unusedSimpArgs false
namespace Go.Fm
open Go

/-! Rounds of a loop. -/
def rndQ (R : Frame → Heap → Prop) (Q : AExit → Frame → Heap → Prop) : AExit → Frame → Heap → Prop
  | .normal, fr, h => R fr h
  | e, fr, h => Q e fr h
def RW (P : Program) (G : Nat → Nat → Option AV) (N n : Nat) (c : Code) (Q : AExit → Frame → Heap → Prop) : Nat → Frame → Heap → Prop
  | 0, _, _ => False
  | k + 1, fr, h => WP P G N n c (rndQ (RW P G N n c Q k) Q) fr h

theorem f_rounds {P : Program} {G : Nat → Nat → Option AV} {N n : Nat} {c : Code} {Q : AExit → Frame → Heap → Prop} {k : Nat} {fr : Frame} {h : Heap} (hk : RW P G N n c Q k fr h) : WP P G N n (.loop c) Q fr h := by
  intro μ₀ κ₀ h₀ w₀ μ κ a w hn hx hh hf
  refine wp_loop_rounds k ?_
  induction k generalizing fr h μ κ a w with
  | zero => exact hk.elim
  | succ k ih =>
    rw [rounds_succ]
    refine wp_mono (hk μ₀ κ₀ h₀ w₀ μ κ a w hn hx hh hf) ?_
    rintro e a' w' ⟨μ', κ', e', fr', h', q, er, hr, fr1, ex⟩
    cases e' with
    | normal => cases er; exact ih q μ' κ' a' w' ex hr fr1
    | exit id => cases er; exact ⟨μ', κ', .exit id, fr', h', q, rfl, hr, fr1, ex⟩
    | ret => cases er; exact ⟨μ', κ', .ret, fr', h', q, rfl, hr, fr1, ex⟩
    | panic v => obtain ⟨rfl, hv⟩ := er; exact ⟨μ', κ', .panic v, fr', h', q, ⟨rfl, hv⟩, hr, fr1, ex⟩

/-! Values are computed before they are kept. -/
section
variable {β : Type}
def fNat (n : Nat) (k : Nat → β) : β := match n with
  | 0 => k 0
  | m + 1 => k (m + 1)
def fInt (n : Int) (k : Int → β) : β := match n with
  | .ofNat m => fNat m fun m => k (.ofNat m)
  | .negSucc m => fNat m fun m => k (.negSucc m)
def fBytes : List UInt8 → (List UInt8 → β) → β
  | [], k => k []
  | x :: t, k => fBytes t fun t => k (x :: t)
def fCap (c : ACap) (k : ACap → β) : β := match c with
  | .exact n => fNat n fun n => k (.exact n)
  | .opn a b => fNat a fun a => fNat b fun b => k (.opn a b)
def fA0 (v : AV) (k : AV → β) : β := match v with
  | .int d n => fInt n fun n => k (.int d n)
  | .bool true => k (.bool true)
  | .bool false => k (.bool false)
  | .str s => fBytes s fun s => k (.str s)
  | .ptr a b => fNat a fun a => fNat b fun b => k (.ptr a b)
  | .slc a b c d => fNat a fun a => fNat b fun b => fNat c fun c => fCap d fun d => k (.slc a b c d)
  | v => k v
def fL0 : List AV → (List AV → β) → β
  | [], k => k []
  | x :: t, k => fA0 x fun x => fL0 t fun t => k (x :: t)
def fA1 (v : AV) (k : AV → β) : β := match v with
  | .agg cs => fL0 cs fun cs => k (.agg cs)
  | v => fA0 v k
def fL1 : List AV → (List AV → β) → β
  | [], k => k []
  | x :: t, k => fA1 x fun x => fL1 t fun t => k (x :: t)
def fAV (v : AV) (k : AV → β) : β := match v with
  | .tup cs => fL1 cs fun cs => k (.tup cs)
  | .fn f a b => fL1 a fun a => fL1 b fun b => k (.fn f a b)
  | v => fA1 v k
theorem fNat_eq (n : Nat) (k : Nat → β) : fNat n k = k n := by cases n <;> rfl
theorem fInt_eq (n : Int) (k : Int → β) : fInt n k = k n := by cases n <;> simp [fInt, fNat_eq]
theorem fBytes_eq : ∀ (s : List UInt8) (k : List UInt8 → β), fBytes s k = k s
  | [], k => rfl
  | x :: t, k => by rw [fBytes, fBytes_eq]
theorem fCap_eq (c : ACap) (k : ACap → β) : fCap c k = k c := by cases c <;> simp [fCap, fNat_eq]
theorem fA0_eq (v : AV) (k : AV → β) : fA0 v k = k v := by
  cases v with
  | bool b => cases b <;> rfl
  | _ => first | rfl | simp [fA0, fInt_eq, fNat_eq, fBytes_eq, fCap_eq]
theorem fL0_eq : ∀ (s : List AV) (k : List AV → β), fL0 s k = k s
  | [], k => rfl
  | x :: t, k => by rw [fL0, fA0_eq, fL0_eq]
theorem fA1_eq (v : AV) (k : AV → β) : fA1 v k = k v := by
  unfold fA1
  split
  · rw [fL0_eq]
  · exact fA0_eq _ _
theorem fL1_eq : ∀ (s : List AV) (k : List AV → β), fL1 s k = k s
  | [], k => rfl
  | x :: t, k => by rw [fL1, fA1_eq, fL1_eq]
theorem fAV_eq (v : AV) (k : AV → β) : fAV v k = k v := by
  unfold fAV
  split
  · rw [fL1_eq]
  · rw [fL1_eq, fL1_eq]
  · exact fA1_eq _ _
end

/-- A frame without what is shadowed. -/
def dd : Nat → Frame → Frame
  | _, [] => []
  | seen, (i, v) :: t => bif Nat.beq i dslot then (i, v) :: dd seen t else (bif Nat.testBit seen i then dd seen t else (i, v) :: dd (Nat.lor seen (Nat.shiftLeft 1 i)) t)
theorem dd_get : ∀ {fr : Frame} {seen j : Nat}, get (dd seen fr) j = if j ≠ dslot ∧ Nat.testBit seen j = true then none else get fr j
  | [], seen, j => by simp [dd, get]
  | (i, v) :: t, seen, j => by
    simp only [dd]
    cases e : Nat.beq i dslot with
    | true =>
      have := Nat.eq_of_beq_eq_true e
      subst this
      simp only [cond_true, get]
      by_cases hj : dslot = j
      · subst hj; simp
      · rw [beq_false_of_ne hj, cond_false, cond_false, dd_get]
    | false =>
      have hi : i ≠ dslot := by intro q; subst q; simp at e
      simp only [cond_false]
      cases hb : Nat.testBit seen i with
      | true =>
        simp only [cond_true, dd_get, get]
        by_cases hj : i = j
        · subst hj; simp [hi, hb]
        · rw [beq_false_of_ne hj, cond_false]
      | false =>
        simp only [cond_false, get]
        by_cases hj : i = j
        · subst hj; simp [hb]
        · rw [beq_false_of_ne hj, cond_false, cond_false, dd_get]
          have hbit : Nat.testBit (Nat.lor seen (Nat.shiftLeft 1 i)) j = Nat.testBit seen j := by
            show Nat.testBit (seen ||| (1 <<< i)) j = _
            rw [Nat.testBit_or, Nat.shiftLeft_eq, Nat.one_mul, Nat.testBit_two_pow]
            simp [hj]
          rw [hbit]
theorem dd_le {P : Program} {G : Nat → Nat → Option AV} {N n : Nat} {c : Code} {Q : AExit → Frame → Heap → Prop} {fr : Frame} {h : Heap} (k : WP P G N n c Q (dd 0 fr) h) : WP P G N n c Q fr h := by
  intro μ₀ κ₀ h₀ w₀ μ κ a w hn hx hh hf
  refine k μ₀ κ₀ h₀ w₀ μ κ a w hn hx hh (hf.sub (fun i v hv _ => ?_) ?_)
  · rw [dd_get] at hv; simpa using hv
  · rw [dd_get]; simp
theorem RW.dd {P : Program} {G : Nat → Nat → Option AV} {N n : Nat} {c : Code} {Q : AExit → Frame → Heap → Prop} {fr : Frame} {h : Heap} {k : Nat} (r : RW P G N n c Q k (dd 0 fr) h) : RW P G N n c Q k fr h := by
  cases k with
  | zero => exact r.elim
  | succ k => exact dd_le r

mutual
/-- Values without any object. -/
def AV.gr : AV → Bool
  | .ptr _ _ => false
  | .slc _ _ _ _ => false
  | .mp _ => false
  | .fn _ a b => bif AVs.gr a then AVs.gr b else false
  | .ifc _ v => v.gr
  | .agg cs => AVs.gr cs
  | .tup vs => AVs.gr vs
  | _ => true
def AVs.gr : List AV → Bool
  | [] => true
  | v :: t => bif v.gr then AVs.gr t else false
end
mutual
theorem AV.gr_ok : ∀ {v : AV}, v.gr = true → v.le 0
  | .bool _, _ | .int _ _, _ | .str _, _ | .gptr _ _, _ | .gslc _ _ _ _, _ | .nilp, _ | .nils, _ | .nilm, _ | .nilf, _ | .nili, _ => trivial
  | .ptr _ _, h => by simp [AV.gr] at h
  | .slc _ _ _ _, h => by simp [AV.gr] at h
  | .mp _, h => by simp [AV.gr] at h
  | .fn _ a b, h => by
    simp only [AV.gr] at h
    cases e : AVs.gr a with
    | false => simp [e] at h
    | true => simp only [e, cond_true] at h; exact ⟨AVs.gr_ok e, AVs.gr_ok h⟩
  | .ifc _ v, h => AV.gr_ok (v := v) (by simpa [AV.gr] using h)
  | .agg cs, h => AVs.gr_ok (l := cs) (by simpa [AV.gr] using h)
  | .tup cs, h => AVs.gr_ok (l := cs) (by simpa [AV.gr] using h)
theorem AVs.gr_ok : ∀ {l : List AV}, AVs.gr l = true → AVs.le 0 l
  | [], _ => trivial
  | v :: t, h => by
    simp only [AVs.gr] at h
    cases e : v.gr with
    | false => simp [e] at h
    | true => simp only [e, cond_true] at h; exact ⟨AV.gr_ok e, AVs.gr_ok h⟩
end

/-! The interpreter. -/
structure FI where
  body : Code
  n : Nat
  rs : List ResultVar
  gr : Bool

structure Ih where
  code : Nat → Code → Frame → Heap → Option (AExit × Frame × Heap)
  call : FuncId → List AV → Heap → Option (AV × Heap)

section
variable (Tb : TypeId → Option TInfo) (G : Nat → Nat → Option AV) (E : TypeId → Bool) (X : FuncId → Option XK) (F : FuncId → Option FI)

def calI (ih : Ih) (f : FuncId) (as : List AV) (h : Heap) : Option (AV × Heap) :=
  match F f with
  | some fi => match fi.gr with
    | true => match AVs.gr as, ih.call f as [] with
      | true, some (v, _) => bif v.gr then some (v, h) else none
      | _, _ => none
    | false => ih.call f as h
  | none => none

def opI (ih : Ih) (fr : Frame) (h : Heap) (op : Op) : Option MRes :=
  match pureOp Tb G fr h op with
  | some v => some (.set v h)
  | none => match ixA Tb E X fr op with
    | some v => some (.set v h)
    | none => match rdA Tb fr h op with
      | some v => some (.set v h)
      | none => match memA Tb X fr h op with
        | some r => some r
        | none => match op with
          | .call c => match calleeOf fr c with
            | some (f, as) => match calI F ih f as h with
              | some (v, h') => some (.set v h')
              | none => none
            | none => none
          | _ => none

def opsI (ih : Ih) (N : Nat) (all : Array Oper) : List Oper → Frame → Heap → Option (Frame × Heap)
  | [], fr, h => some (fr, h)
  | o :: r, fr, h => match gw all fr o with
    | some true => match opI Tb G E X F ih fr h o.op with
      | some (.set v h') => bif okD N o.dst then fAV v fun v => opsI ih N all r (put fr o.dst v) h' else none
      | some (.grow v g) => bif okD N o.dst then fAV v fun v => opsI ih N all r (put fr o.dst v) (h ++ [g]) else none
      | some (.store h') => match o.dst with
        | none => opsI ih N all r fr h'
        | some _ => none
      | none => none
    | some false => bif okD N o.dst then opsI ih N all r (put fr o.dst (.tup [])) h else none
    | none => none

def gdm (m : Bool) (x : Option AV) : Option AV := match m with
  | true => none
  | false => x
theorem gdm_some {m : Bool} {x : Option AV} {v : AV} (h : gdm m x = some v) : x = some v := by
  cases m with
  | true => simp [gdm] at h
  | false => exact h

/-- What an operation of an open order comes to. -/
def drO (ih : Ih) (h0 : Heap) (m : Bool) (fs : Frame) (h : Heap) (op : Op) : Option (MRes × Kd) :=
  match pureOp Tb G fs [] op with
  | some v => some (.set v h, .q false)
  | none => match ixA Tb E X fs op with
    | some v => some (.set v h, .q false)
    | none => match gdm m (pureOp Tb G fs h0 op) with
      | some v => some (.set v h, .q true)
      | none => match gdm m (rdA Tb fs h0 op) with
        | some v => some (.set v h, .q true)
        | none => match opI Tb G E X F ih fs h op with
          | some (.set v h') => some (.set v h', .c false)
          | some (.grow v g) => some (.grow v g, .c true)
          | some (.store h') => some (.store h', .c false)
          | none => none

def drI (ih : Ih) (N : Nat) (all : Array Oper) (h0 : Heap) : List Oper → List Kd → Bool → Frame → Heap → Option (Frame × Heap)
  | [], acc, _, fr, h => bif chk all acc.reverse then some (fr, h) else none
  | o :: r, acc, m, fr, h => match gw all (restr fr (looksT all o)) o with
    | some true => match drO Tb G E X F ih h0 m (restr fr (looksT all o)) h o.op with
      | some (.set v h', k) => bif okD N o.dst then fAV v fun v => drI ih N all h0 r (k :: acc) (bif k.isM then true else m) (put fr o.dst v) h' else none
      | some (.grow v g, k) => bif okD N o.dst then fAV v fun v => drI ih N all h0 r (k :: acc) m (put fr o.dst v) (h ++ [g]) else none
      | some (.store h', k) => match o.dst with
        | none => drI ih N all h0 r (k :: acc) true fr h'
        | some _ => none
      | none => none
    | some false => bif okD N o.dst then drI ih N all h0 r (.s :: acc) m (put fr o.dst (.tup [])) h else none
    | none => none

def loopI (body : Frame → Heap → Option (AExit × Frame × Heap)) (n : Nat) : Frame → Heap → Option (AExit × Frame × Heap) :=
  Nat.rec (fun _ _ => none) (fun _ self fr h => match body fr h with
    | some (.normal, fr', h') => self (dd 0 fr') h'
    | r => r) n

def codeI (ih : Ih) (N : Nat) : Code → Frame → Heap → Option (AExit × Frame × Heap)
  | .skip, fr, h => some (.normal, fr, h)
  | .ret, fr, h => some (.ret, fr, h)
  | .exit id, fr, h => some (.exit id, fr, h)
  | .seq a b, fr, h => match ih.code N a fr h with
    | some (.normal, fr', h') => ih.code N b fr' h'
    | r => r
  | .block id c, fr, h => match ih.code N c fr h with
    | some (.exit j, fr', h') => bif Nat.beq j id then some (.normal, fr', h') else some (.exit j, fr', h')
    | r => r
  | .loop c, fr, h => loopI (ih.code N c) 1000000 fr h
  | .cond x a b, fr, h => match ev fr x with
    | some (.bool true) => ih.code N a fr h
    | some (.bool false) => ih.code N b fr h
    | _ => none
  | .region _ ops false, fr, h => match opsI Tb G E X F ih N ops ops.toList fr h with
    | some (fr', h') => some (.normal, fr', h')
    | none => none
  | .region _ ops true, fr, h => match drI Tb G E X F ih N ops h ops.toList [] false fr h with
    | some (fr', h') => some (.normal, fr', h')
    | none => none
  | _, _, _ => none

def isEnd : AExit → Bool
  | .normal => true
  | .ret => true
  | _ => false

def callI (ih : Ih) (f : FuncId) (as : List AV) (h : Heap) : Option (AV × Heap) :=
  match F f with
  | some fi => bif Nat.ble as.length fi.n then (bif Nat.ble fi.n dslot then (match ih.code fi.n fi.body (initF 0 as) h with
    | some (e, fr', h') => bif isEnd e then (match get fr' dslot, resV Tb G fi.rs fr' h' with
      | none, some v => fAV v fun v => some (v, h')
      | _, _ => none) else none
    | none => none) else none) else none
  | none => none

def runF (n : Nat) : Ih := Nat.rec ⟨fun _ _ _ _ => none, fun _ _ _ => none⟩ (fun _ ih => ⟨codeI Tb G E X F ih, callI Tb G F ih⟩) n
end
end Go.Fm
