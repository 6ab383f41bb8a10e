/- FM, a program logic over the given model with abstract values and an abstract heap: general lemmas. No statement is closed in this text. -/
import Derived.Test.YtcimapbdkmdcpaaGreatDoorFmZb
set_option linter.unusedVariables false
set_option linter.unusedSimpArgs false
namespace Go.Fm
open Go

/-! What stands behind the heap is dropped: no numbers change. -/
def FLe (m : Nat) : Frame → Prop
  | [] => True
  | (_, v) :: t => v.le m ∧ FLe m t
def HLe (m : Nat) : Heap → Prop
  | [] => True
  | o :: t => AObj.le m o ∧ HLe m t
theorem FLe.get {m : Nat} : ∀ {fr : Frame}, FLe m fr → ∀ {i : Nat} {v : AV}, Fm.get fr i = some v → v.le m
  | [], _, i, v, h => by simp [Fm.get] at h
  | (j, u) :: t, hl, i, v, h => by
    simp only [Fm.get] at h
    by_cases e : j = i
    · subst e; simp at h; subst h; exact hl.1
    · rw [beq_false_of_ne e, cond_false] at h; exact FLe.get hl.2 h
theorem HLe.mem {m : Nat} : ∀ {h : Heap}, HLe m h → ∀ o ∈ h, AObj.le m o
  | [], _, o, h => by simp at h
  | x :: t, hl, o, h => by
    rcases List.mem_cons.1 h with rfl | h
    · exact hl.1
    · exact HLe.mem hl.2 o h

section
variable {P : Program} {Tb : TypeId → Option TInfo} {G : Nat → Nat → Option AV} {N n : Nat} {Q : AExit → Frame → Heap → Prop} {fr fr2 : Frame} {h g : Heap}

theorem f_cut0 {c : Code} (hs : Sub fr2 fr) (hd2 : get fr2 dslot = none) (hd : get fr dslot = none) (hf : FLe h.length fr2) (hn : n ≤ h.length) (hcl : ∀ o ∈ h, AObj.le h.length o) (k : WP P G N n c Q fr2 h) : WP P G N n c Q fr (h ++ g) := by
  intro μ₀ κ₀ h₀ w₀ μ κ a w hn0 hx hh hfr
  have hfr2 : FRel N μ κ fr2 (h ++ g).length a := hfr.sub (fun i v hv _ => sub_get _ _ hs i v hv) (hd2.trans hd.symm)
  refine k μ₀ κ₀ h₀ w₀ μ κ a w hn0 (hx.prefix (by omega)) (hh.prefix hcl) ⟨hfr2.size, hfr2.small, hfr2.defers, ?_, fun i v hv hi => ⟨(hfr2.slot i v hv hi).1, hf.get hv⟩⟩
  simp [defersOf, hd2, AVs.le]

theorem f_cut {c : Code} (hs : Sub fr2 fr) (hd2 : get fr2 dslot = none) (hd : get fr dslot = none) (hf : FLe h.length fr2) (hn : Nat.ble n h.length = true) (hcl : HLe h.length h) (k : WP P G N n c Q fr2 h) : WP P G N n c Q fr (h ++ g) :=
  f_cut0 hs hd2 hd hf (Nat.le_of_ble_eq_true hn) hcl.mem k

/-- A loop, by a family of frames and heaps; behind the heap may stand what nobody asks for. -/
theorem f_loopJ {α : Type} {c : Code} (F : α → Frame) (H : α → Heap) (I : α → Prop) (m : α → Nat) (x₀ : α) (hI : I x₀) (hF : Sub (F x₀) fr) (hd : ∀ x, get (F x) dslot = none) (hd0 : get fr dslot = none) (hH : ∃ g, h = H x₀ ++ g)
    (hn : ∀ x, Nat.ble n (H x).length = true) (hf : ∀ x, I x → FLe (H x).length (F x)) (hcl : ∀ x, I x → HLe (H x).length (H x))
    (round : ∀ x, I x → WP P G N n c (loopQ (fun y fr h => I y ∧ Sub (F y) fr ∧ get fr dslot = none ∧ ∃ g, h = H y ++ g) m x Q) (F x) (H x)) : WP P G N n (.loop c) Q fr h := by
  refine f_loop (fun y fr h => I y ∧ Sub (F y) fr ∧ get fr dslot = none ∧ ∃ g, h = H y ++ g) m x₀ ⟨hI, hF, hd0, hH⟩ ?_
  rintro x fr h ⟨hi, hs, hds, g, rfl⟩
  exact f_cut hs (hd x) hds (hf x hi) (hn x) (hcl x hi) (round x hi)
theorem loop_j {α : Type} {F : α → Frame} {H : α → Heap} {I : α → Prop} {m : α → Nat} {x : α} (y : α) (hI : I y) (hm : m y < m x) (hs : Sub (F y) fr) (hd : get fr dslot = none) (hH : ∃ g, h = H y ++ g) :
    loopQ (fun y fr h => I y ∧ Sub (F y) fr ∧ get fr dslot = none ∧ ∃ g, h = H y ++ g) m x Q .normal fr h := ⟨y, ⟨hI, hs, hd, hH⟩, hm⟩

/-- A loop that changes no memory that was: the heap stays, what stands behind it is dropped. -/
theorem f_loopC {α : Type} {c : Code} (F : α → Frame) (I : α → Prop) (m : α → Nat) (x₀ : α) (hI : I x₀) (hF : Sub (F x₀) fr) (hd : ∀ x, get (F x) dslot = none) (hd0 : get fr dslot = none)
    (hf : ∀ x, I x → FLe h.length (F x))
    (round : ∀ x, I x → WP P G N n c (loopQ (fun y fr h' => I y ∧ Sub (F y) fr ∧ get fr dslot = none ∧ ∃ g, h' = h ++ g) m x Q) (F x) h) : WP P G N n (.loop c) Q fr h := by
  intro μ₀ κ₀ h₀ w₀ μ κ a w hn0 hx hh hfr
  have hcl := hh.closed
  have hn : n ≤ h.length := by have := hx.len; omega
  refine f_loop (fun y fr h' => I y ∧ Sub (F y) fr ∧ get fr dslot = none ∧ ∃ g, h' = h ++ g) m x₀ ⟨hI, hF, hd0, [], by simp⟩ ?_ μ₀ κ₀ h₀ w₀ μ κ a w hn0 hx hh hfr
  rintro x fr h' ⟨hi, hs, hds, g, rfl⟩
  exact f_cut0 hs (hd x) hds (hf x hi) hn hcl (round x hi)
theorem loop_c {α : Type} {F : α → Frame} {I : α → Prop} {m : α → Nat} {x : α} {h' : Heap} (y : α) (hI : I y) (hm : m y < m x) (hs : Sub (F y) fr) (hd : get fr dslot = none) (hH : ∃ g, h' = h ++ g) :
    loopQ (fun y fr h' => I y ∧ Sub (F y) fr ∧ get fr dslot = none ∧ ∃ g, h' = h ++ g) m x Q .normal fr h' := ⟨y, ⟨hI, hs, hd, hH⟩, hm⟩

/-- What a call comes to, cut down. -/
theorem RetTo.cut {f : FuncId} {as : List AV} {h2 : Heap} {v : AV} (hc : CallTo P G f as h (fun e q => e = .ret v ∧ ∃ g, q = h2 ++ g)) (hv : v.le h2.length) (hn : h.length ≤ h2.length) (hcl : HLe h2.length h2) : RetTo P G f as h v h2 :=
  hc.drop fun e h' q => by
    obtain ⟨rfl, g, rfl⟩ := q
    exact ⟨h2, g, rfl, ⟨rfl, rfl⟩, hn, hv, fun _ => hcl.mem⟩
end
end Go.Fm
