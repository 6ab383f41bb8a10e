/- FM, a program logic over the given model with abstract values and an abstract heap: general lemmas. No statement is closed in this text. -/
import Derived.Test.YtcimapbdkmdcpaaGreatDoorFmZd
set_option linter.unusedVariables false
set_option linter.unusedSimpArgs false
namespace Go.Fm
open Go

/-! Frames cut down to what is read later: computed on the way. -/
def keepC : List Nat → Frame → Frame → (Frame → Prop) → Prop
  | [], fr, acc, K => match get fr dslot with
    | some v => K ((dslot, v) :: acc)
    | none => K acc
  | k :: t, fr, acc, K => match get fr k with
    | some v => keepC t fr ((k, v) :: acc) K
    | none => keepC t fr acc K
def keepR (L : List (List Nat)) (id : Nat) (fr : Frame) (K : Frame → Prop) : Prop := match nth L id with
  | some ks => keepC ks fr [] K
  | none => K fr

section
variable {P : Program} {G : Nat → Nat → Option AV} {N n : Nat} {all : Array Oper} {Q : AExit → Frame → Heap → Prop} {fr : Frame} {h : Heap}

def Less (a b : Frame) : Prop := (∀ i v, get a i = some v → get b i = some v) ∧ get a dslot = get b dslot
theorem f_lessF {c : Code} {fr2 : Frame} (hs : Less fr2 fr) (k : WP P G N n c Q fr2 h) : WP P G N n c Q fr h := by
  intro μ₀ κ₀ h₀ w₀ μ κ a w hn hx hh hf
  exact k μ₀ κ₀ h₀ w₀ μ κ a w hn hx hh (hf.sub (fun i v hv _ => hs.1 i v hv) hs.2)

theorem keepC_less {K : Frame → Prop} : ∀ {ks : List Nat} {acc : Frame}, (∀ i v, get acc i = some v → get fr i = some v) → keepC ks fr acc K → ∃ fr2, Less fr2 fr ∧ K fr2
  | [], acc, ha, k => by
    simp only [keepC] at k
    split at k
    · rename_i v hv
      refine ⟨_, ⟨fun i u hu => ?_, ?_⟩, k⟩
      · simp only [get] at hu
        by_cases e : dslot = i
        · subst e; simp at hu; subst hu; exact hv
        · rw [beq_false_of_ne e, cond_false] at hu; exact ha i u hu
      · simp [get, hv]
    · rename_i hv
      refine ⟨_, ⟨ha, ?_⟩, k⟩
      rw [hv]
      cases e : get acc dslot with
      | none => rfl
      | some u => rw [ha _ _ e] at hv; simp at hv
  | t :: ks, acc, ha, k => by
    simp only [keepC] at k
    split at k
    · rename_i v hv
      refine keepC_less (fun i u hu => ?_) k
      simp only [get] at hu
      by_cases e : t = i
      · subst e; simp at hu; subst hu; exact hv
      · rw [beq_false_of_ne e, cond_false] at hu; exact ha i u hu
    · exact keepC_less ha k
theorem keepR_less {L : List (List Nat)} {id : Nat} {K : Frame → Prop} (k : keepR L id fr K) : ∃ fr2, Less fr2 fr ∧ K fr2 := by
  unfold keepR at k
  split at k
  · exact keepC_less (fun i v hv => by simp [get] at hv) k
  · exact ⟨fr, ⟨fun _ _ h => h, rfl⟩, k⟩

theorem f_regionL {id : Nat} (L : List (List Nat)) (k : keepR L id fr fun fr2 => opsWP P G N n all all.toList Q fr2 h) : WP P G N n (.region id all false) Q fr h := by
  obtain ⟨fr2, hl, hk⟩ := keepR_less k
  exact f_lessF hl (f_region hk)
theorem f_drawL {id : Nat} (L : List (List Nat)) (hm : P.follows .mixedOrders = true) (k : keepR L id fr fun fr2 => DrK P G N all h all.toList [] (Q .normal) fr2 h) : WP P G N n (.region id all true) Q fr h := by
  obtain ⟨fr2, hl, hk⟩ := keepR_less k
  exact f_lessF hl (f_draw hm hk)

end

/-! Heaps, computed on the way. -/
def setC {α : Type} : List α → Nat → α → List α → (List α → Prop) → Prop
  | [], _, _, acc, K => K (acc.reverse)
  | _ :: t, 0, y, acc, K => K (acc.reverse ++ y :: t)
  | x :: t, n + 1, y, acc, K => setC t n y (x :: acc) K

/-- A choice of a bool that something else decides. -/
theorem BD.iff {p : Prop} {b : Bool} (h : b = true ↔ p) : BD p b := .of h
end Go.Fm
