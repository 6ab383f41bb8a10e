/- FM, a program logic over the given model with abstract values and an abstract heap: general lemmas. No statement is closed in this text. -/
import Derived.Test.YtcimapbdkmdcpaaGreatDoorFmL
set_option linter.unusedVariables false
set_option linter.unusedSimpArgs false
namespace Go.Fm
open Go

/-! Checking a table of types against a program. -/
mutual
def eqAV : AV → AV → Bool
  | .bool a, .bool b => a == b
  | .int k n, .int k' m => kindEq k k' && decide (n = m)
  | .str s, .str t => s == t
  | .nilp, .nilp | .nils, .nils | .nilm, .nilm | .nilf, .nilf | .nili, .nili => true
  | .agg a, .agg b => eqAVs a b
  | _, _ => false
def eqAVs : List AV → List AV → Bool
  | [], [] => true
  | a :: s, b :: t => eqAV a b && eqAVs s t
  | _, _ => false
end
mutual
theorem eqAV_eq : ∀ (a b : AV), eqAV a b = true → a = b
  | .bool a, .bool b, h => by simp [eqAV] at h; rw [h]
  | .int k n, .int k' m, h => by simp [eqAV] at h; rw [kindEq_eq h.1, h.2]
  | .str s, .str t, h => by simp [eqAV] at h; rw [h]
  | .nilp, .nilp, _ | .nils, .nils, _ | .nilm, .nilm, _ | .nilf, .nilf, _ | .nili, .nili, _ => rfl
  | .agg a, .agg b, h => by simp [eqAV] at h; rw [eqAVs_eq a b h]
  | .bool _, .int _ _, h | .bool _, .str _, h | .bool _, .ptr _ _, h | .bool _, .gptr _ _, h | .bool _, .gslc _ _ _ _, h | .bool _, .nilp, h | .bool _, .slc _ _ _ _, h | .bool _, .nils, h | .bool _, .mp _, h | .bool _, .nilm, h | .bool _, .fn _ _ _, h | .bool _, .nilf, h | .bool _, .ifc _ _, h | .bool _, .nili, h | .bool _, .agg _, h | .bool _, .tup _, h => by simp [eqAV] at h
  | .int _ _, .bool _, h | .int _ _, .str _, h | .int _ _, .ptr _ _, h | .int _ _, .gptr _ _, h | .int _ _, .gslc _ _ _ _, h | .int _ _, .nilp, h | .int _ _, .slc _ _ _ _, h | .int _ _, .nils, h | .int _ _, .mp _, h | .int _ _, .nilm, h | .int _ _, .fn _ _ _, h | .int _ _, .nilf, h | .int _ _, .ifc _ _, h | .int _ _, .nili, h | .int _ _, .agg _, h | .int _ _, .tup _, h => by simp [eqAV] at h
  | .str _, .bool _, h | .str _, .int _ _, h | .str _, .ptr _ _, h | .str _, .gptr _ _, h | .str _, .gslc _ _ _ _, h | .str _, .nilp, h | .str _, .slc _ _ _ _, h | .str _, .nils, h | .str _, .mp _, h | .str _, .nilm, h | .str _, .fn _ _ _, h | .str _, .nilf, h | .str _, .ifc _ _, h | .str _, .nili, h | .str _, .agg _, h | .str _, .tup _, h => by simp [eqAV] at h
  | .ptr _ _, b, h => by cases b <;> simp [eqAV] at h
  | .gptr _ _, b, h => by cases b <;> simp [eqAV] at h
  | .gslc _ _ _ _, b, h => by cases b <;> simp [eqAV] at h
  | .slc _ _ _ _, b, h => by cases b <;> simp [eqAV] at h
  | .mp _, b, h => by cases b <;> simp [eqAV] at h
  | .fn _ _ _, b, h => by cases b <;> simp [eqAV] at h
  | .ifc _ _, b, h => by cases b <;> simp [eqAV] at h
  | .tup _, b, h => by cases b <;> simp [eqAV] at h
  | .nilp, .bool _, h | .nilp, .int _ _, h | .nilp, .str _, h | .nilp, .ptr _ _, h | .nilp, .gptr _ _, h | .nilp, .gslc _ _ _ _, h | .nilp, .slc _ _ _ _, h | .nilp, .nils, h | .nilp, .mp _, h | .nilp, .nilm, h | .nilp, .fn _ _ _, h | .nilp, .nilf, h | .nilp, .ifc _ _, h | .nilp, .nili, h | .nilp, .agg _, h | .nilp, .tup _, h => by simp [eqAV] at h
  | .nils, .bool _, h | .nils, .int _ _, h | .nils, .str _, h | .nils, .ptr _ _, h | .nils, .gptr _ _, h | .nils, .gslc _ _ _ _, h | .nils, .slc _ _ _ _, h | .nils, .nilp, h | .nils, .mp _, h | .nils, .nilm, h | .nils, .fn _ _ _, h | .nils, .nilf, h | .nils, .ifc _ _, h | .nils, .nili, h | .nils, .agg _, h | .nils, .tup _, h => by simp [eqAV] at h
  | .nilm, .bool _, h | .nilm, .int _ _, h | .nilm, .str _, h | .nilm, .ptr _ _, h | .nilm, .gptr _ _, h | .nilm, .gslc _ _ _ _, h | .nilm, .slc _ _ _ _, h | .nilm, .nilp, h | .nilm, .mp _, h | .nilm, .nils, h | .nilm, .fn _ _ _, h | .nilm, .nilf, h | .nilm, .ifc _ _, h | .nilm, .nili, h | .nilm, .agg _, h | .nilm, .tup _, h => by simp [eqAV] at h
  | .nilf, .bool _, h | .nilf, .int _ _, h | .nilf, .str _, h | .nilf, .ptr _ _, h | .nilf, .gptr _ _, h | .nilf, .gslc _ _ _ _, h | .nilf, .slc _ _ _ _, h | .nilf, .nilp, h | .nilf, .mp _, h | .nilf, .nils, h | .nilf, .fn _ _ _, h | .nilf, .nilm, h | .nilf, .ifc _ _, h | .nilf, .nili, h | .nilf, .agg _, h | .nilf, .tup _, h => by simp [eqAV] at h
  | .nili, .bool _, h | .nili, .int _ _, h | .nili, .str _, h | .nili, .ptr _ _, h | .nili, .gptr _ _, h | .nili, .gslc _ _ _ _, h | .nili, .slc _ _ _ _, h | .nili, .nilp, h | .nili, .mp _, h | .nili, .nils, h | .nili, .fn _ _ _, h | .nili, .nilm, h | .nili, .ifc _ _, h | .nili, .nilf, h | .nili, .agg _, h | .nili, .tup _, h => by simp [eqAV] at h
  | .agg _, .bool _, h | .agg _, .int _ _, h | .agg _, .str _, h | .agg _, .ptr _ _, h | .agg _, .gptr _ _, h | .agg _, .gslc _ _ _ _, h | .agg _, .slc _ _ _ _, h | .agg _, .nilp, h | .agg _, .mp _, h | .agg _, .nils, h | .agg _, .fn _ _ _, h | .agg _, .nilm, h | .agg _, .ifc _ _, h | .agg _, .nilf, h | .agg _, .nili, h | .agg _, .tup _, h => by simp [eqAV] at h
theorem eqAVs_eq : ∀ (a b : List AV), eqAVs a b = true → a = b
  | [], [], _ => rfl
  | [], _ :: _, h => by simp [eqAVs] at h
  | _ :: _, [], h => by simp [eqAVs] at h
  | a :: s, b :: t, h => by simp [eqAVs] at h; rw [eqAV_eq a b h.1, eqAVs_eq s t h.2]
end

def ukChk : UK → TypeDesc → Bool
  | .bool, .bool => true
  | .int k, .int k' => kindEq k k'
  | .str, .string => true
  | .ptr e, .pointer e' => Nat.beq e e'
  | .slc e, .slice e' => Nat.beq e e'
  | .arr n e, .array n' e' => Nat.beq n n' && Nat.beq e e'
  | .strct fs, .struct f => decide (f.toList.map (fun x => (x.offset, x.type)) = fs)
  | .iface, .interface _ => true
  | .map k e, .map k' e' => Nat.beq k k' && Nat.beq e e'
  | .func, .func _ _ _ => true
  | .unsf, .unsafePointer => true
  | _, _ => false
theorem ukChk_ok {u : UK} {d : TypeDesc} (h : ukChk u d = true) : ukRel u d := by
  unfold ukChk at h
  split at h
  case h_1 => rfl
  case h_2 => show _ = _; rw [kindEq_eq h]
  case h_3 => rfl
  case h_4 => show _ = _; rw [Nat.eq_of_beq_eq_true h]
  case h_5 => show _ = _; rw [Nat.eq_of_beq_eq_true h]
  case h_6 => simp only [Bool.and_eq_true] at h; show _ = _; rw [Nat.eq_of_beq_eq_true h.1, Nat.eq_of_beq_eq_true h.2]
  case h_7 => exact ⟨_, rfl, of_decide_eq_true h⟩
  case h_8 => exact ⟨_, rfl⟩
  case h_9 => simp only [Bool.and_eq_true] at h; show _ = _; rw [Nat.eq_of_beq_eq_true h.1, Nat.eq_of_beq_eq_true h.2]
  case h_10 => exact ⟨_, _, _, rfl⟩
  case h_11 => rfl
  case h_12 => simp at h

def zeroChk : Option AV → Option Value → Bool
  | none, _ => true
  | some z, some v => match ofConst v with
    | some a => eqAV a z
    | none => false
  | some _, none => false

def chkT (P : Program) (t : TypeId) (i : TInfo) : Bool :=
  match P.info? t, P.underlying t with
  | some ti, some d => Nat.beq ti.size i.size && Nat.beq ti.bytes i.bytes && zeroChk i.zero ti.zero && ukChk i.uk d
  | _, _ => false

theorem chkT_ok {P : Program} {t : TypeId} {i : TInfo} (h : chkT P t i = true) : ∃ ti d, TOk P t i ti d := by
  unfold chkT at h
  split at h
  · rename_i ti d h1 h2
    simp at h
    obtain ⟨⟨⟨a, b⟩, c⟩, e⟩ := h
    refine ⟨ti, d, h1, a, b, ?_, h2, ukChk_ok e⟩
    intro z hz
    rw [hz] at c
    unfold zeroChk at c
    split at c
    · simp_all
    · rename_i z' v e1 e2
      split at c
      · rename_i a' ha
        simp at e1; subst e1
        have := eqAV_eq _ _ c
        subst this
        exact ⟨v, e2, fun μ κ => (ofConst_sound ha μ κ).1, (ofConst_sound ha (fun _ => 0) (fun _ => 0)).2⟩
      · simp at c
    · simp at c
  · simp at h

def tbOf : List (Nat × TInfo) → TypeId → Option TInfo
  | [], _ => none
  | (j, i) :: r, t => bif Nat.beq j t then some i else tbOf r t
theorem tbOf_mem : ∀ {l : List (Nat × TInfo)} {t : TypeId} {i : TInfo}, tbOf l t = some i → (t, i) ∈ l
  | [], t, i, h => by simp [tbOf] at h
  | (j, x) :: r, t, i, h => by
    simp only [tbOf] at h
    cases e : Nat.beq j t with
    | true =>
      simp [e] at h; subst h
      have := Nat.eq_of_beq_eq_true e
      subst this
      exact List.mem_cons_self ..
    | false => simp [e] at h; exact List.mem_cons_of_mem _ (tbOf_mem h)
theorem tbOf_ok {P : Program} {l : List (Nat × TInfo)} (h : l.all (fun x => chkT P x.1 x.2) = true) : TbOk P (tbOf l) := by
  intro t i hi
  rw [List.all_eq_true] at h
  exact chkT_ok (h (t, i) (tbOf_mem hi))

def fnChk (P : Program) (f : FuncId) : Bool :=
  match P.funcs[f]? with
  | some fn => !(fn.name == "runtime.NumGoroutine") && !fn.body.isNone
  | none => false
theorem fnChk_ok {P : Program} {f : FuncId} (h : fnChk P f = true) : FnOk P f := by
  unfold fnChk at h
  split at h
  · rename_i fn hf
    simp at h
    exact ⟨fn, hf, by simpa using h.1, by simpa using h.2⟩
  · simp at h
def inL : List Nat → Nat → Bool
  | [], _ => false
  | x :: t, f => bif Nat.beq x f then true else inL t f
theorem inL_ok {P : Program} : ∀ {l : List Nat} {f : Nat}, l.all (fnChk P) = true → inL l f = true → FnOk P f
  | [], f, _, h => by simp [inL] at h
  | x :: t, f, ha, h => by
    simp only [inL] at h
    simp only [List.all_cons, Bool.and_eq_true] at ha
    cases e : Nat.beq x f with
    | true => have := Nat.eq_of_beq_eq_true e; subst this; exact fnChk_ok ha.1
    | false => simp [e] at h; exact inL_ok ha.2 h
end Go.Fm
