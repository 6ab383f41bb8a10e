/- FM, a program logic over the given model with abstract values and an abstract heap: general lemmas. No statement is closed in this text. -/
import Derived.Test.YtcimapbdkmdcpaaGreatDoorFmZ
set_option linter.unusedVariables false
set_option linter.unusedSimpArgs false
namespace Go.Fm
open Go

/-! The driver's rules on computed operations, and for regions of open order. -/
def ih0 : Ih := ⟨fun _ _ _ _ => none, fun _ _ _ => none⟩
def f0 : FuncId → Option FI := fun _ => none
theorem ih0_ok {P : Program} {G : Nat → Nat → Option AV} : IhOk P G f0 ih0 := ⟨fun _ _ _ _ _ _ _ _ h => by simp [ih0] at h, fun _ _ _ _ _ h => by simp [ih0] at h⟩
theorem f0_ok {P : Program} : FOk P f0 := fun f fi h => by simp [f0] at h

section
variable {P : Program} {Tb : TypeId → Option TInfo} {G : Nat → Nat → Option AV} {N n : Nat} {E : TypeId → Bool} {X : FuncId → Option XK} {fr : Frame} {h h' h0 : Heap} {o : Oper} {all : Array Oper} {rest : List Oper} {Q : AExit → Frame → Heap → Prop} {R : Frame → Heap → Prop} {acc : List Kd} {v : AV} {g : AObj} {k : Kd}
  {d : Nat} {op : Op} {ty : TypeId} {pos : String} {after : Array Edge} {guard : Option (Nat × Bool)}

theorem x_set (hT : TbOk P Tb) (hE : EqOk P E) (hX : XOk P X) (hv : opI Tb G E X f0 ih0 fr h op = some (.set v h')) (hd : Nat.blt d N = true) (kk : opsWP P G N n all rest Q ((d, v) :: fr) h') : opsGo P G N n all ⟨some d, op, ty, pos, after, guard⟩ rest Q fr h :=
  opTo_go (o := ⟨some d, op, ty, pos, after, guard⟩) hd (opI_ok (o := ⟨some d, op, ty, pos, after, guard⟩) hT hE hX f0_ok ih0_ok hv) kk
theorem x_setN (hT : TbOk P Tb) (hE : EqOk P E) (hX : XOk P X) (hv : opI Tb G E X f0 ih0 fr h op = some (.set v h')) (kk : opsWP P G N n all rest Q fr h') : opsGo P G N n all ⟨none, op, ty, pos, after, guard⟩ rest Q fr h :=
  opTo_go (o := ⟨none, op, ty, pos, after, guard⟩) rfl (opI_ok (o := ⟨none, op, ty, pos, after, guard⟩) hT hE hX f0_ok ih0_ok hv) kk
theorem x_grow (hT : TbOk P Tb) (hE : EqOk P E) (hX : XOk P X) (hv : opI Tb G E X f0 ih0 fr h op = some (.grow v g)) (hd : Nat.blt d N = true) (kk : opsWP P G N n all rest Q ((d, v) :: fr) (h ++ [g])) : opsGo P G N n all ⟨some d, op, ty, pos, after, guard⟩ rest Q fr h :=
  opTo_go (o := ⟨some d, op, ty, pos, after, guard⟩) hd (opI_ok (o := ⟨some d, op, ty, pos, after, guard⟩) hT hE hX f0_ok ih0_ok hv) kk
theorem x_store (hT : TbOk P Tb) (hE : EqOk P E) (hX : XOk P X) (hv : opI Tb G E X f0 ih0 fr h op = some (.store h')) (kk : opsWP P G N n all rest Q fr h') : opsGo P G N n all ⟨none, op, ty, pos, after, guard⟩ rest Q fr h :=
  opTo_go (o := ⟨none, op, ty, pos, after, guard⟩) rfl (opI_ok (o := ⟨none, op, ty, pos, after, guard⟩) hT hE hX f0_ok ih0_ok hv rfl) kk

def accM : List Kd → Bool
  | [] => false
  | k :: t => bif k.isM then true else accM t

theorem d_skip (hg : gw all (restr fr (looksT all ⟨some d, op, ty, pos, after, guard⟩)) ⟨some d, op, ty, pos, after, guard⟩ = some false) (hd : Nat.blt d N = true) (kk : DrK P G N all h0 rest (.s :: acc) R ((d, .tup []) :: fr) h) : DrK P G N all h0 (⟨some d, op, ty, pos, after, guard⟩ :: rest) acc R fr h :=
  DrK.cons (v := some (.tup [])) (k := .s) ⟨hg, rfl, rfl⟩ hd kk
theorem d_skipN (hg : gw all (restr fr (looksT all ⟨none, op, ty, pos, after, guard⟩)) ⟨none, op, ty, pos, after, guard⟩ = some false) (kk : DrK P G N all h0 rest (.s :: acc) R fr h) : DrK P G N all h0 (⟨none, op, ty, pos, after, guard⟩ :: rest) acc R fr h :=
  DrK.cons (v := some (.tup [])) (k := .s) ⟨hg, rfl, rfl⟩ rfl kk
theorem d_set (hT : TbOk P Tb) (hE : EqOk P E) (hX : XOk P X) (hg : gw all (restr fr (looksT all ⟨some d, op, ty, pos, after, guard⟩)) ⟨some d, op, ty, pos, after, guard⟩ = some true)
    (hv : drO Tb G E X f0 ih0 h0 (accM acc) (restr fr (looksT all ⟨some d, op, ty, pos, after, guard⟩)) h op = some (.set v h', k)) (hd : Nat.blt d N = true) (kk : DrK P G N all h0 rest (k :: acc) R ((d, v) :: fr) h') : DrK P G N all h0 (⟨some d, op, ty, pos, after, guard⟩ :: rest) acc R fr h :=
  DrK.cons (o := ⟨some d, op, ty, pos, after, guard⟩) (drO_ok (o := ⟨some d, op, ty, pos, after, guard⟩) (r := .set v h') hT hE hX f0_ok ih0_ok hg hv) hd kk
theorem d_grow (hT : TbOk P Tb) (hE : EqOk P E) (hX : XOk P X) (hg : gw all (restr fr (looksT all ⟨some d, op, ty, pos, after, guard⟩)) ⟨some d, op, ty, pos, after, guard⟩ = some true)
    (hv : drO Tb G E X f0 ih0 h0 (accM acc) (restr fr (looksT all ⟨some d, op, ty, pos, after, guard⟩)) h op = some (.grow v g, k)) (hd : Nat.blt d N = true) (kk : DrK P G N all h0 rest (k :: acc) R ((d, v) :: fr) (h ++ [g])) : DrK P G N all h0 (⟨some d, op, ty, pos, after, guard⟩ :: rest) acc R fr h :=
  DrK.cons (o := ⟨some d, op, ty, pos, after, guard⟩) (drO_ok (o := ⟨some d, op, ty, pos, after, guard⟩) (r := .grow v g) hT hE hX f0_ok ih0_ok hg hv) hd kk
theorem d_store (hT : TbOk P Tb) (hE : EqOk P E) (hX : XOk P X) (hg : gw all (restr fr (looksT all ⟨none, op, ty, pos, after, guard⟩)) ⟨none, op, ty, pos, after, guard⟩ = some true)
    (hv : drO Tb G E X f0 ih0 h0 (accM acc) (restr fr (looksT all ⟨none, op, ty, pos, after, guard⟩)) h op = some (.store h', k)) (kk : DrK P G N all h0 rest (k :: acc) R fr h') : DrK P G N all h0 (⟨none, op, ty, pos, after, guard⟩ :: rest) acc R fr h :=
  DrK.cons (o := ⟨none, op, ty, pos, after, guard⟩) (drO_ok (o := ⟨none, op, ty, pos, after, guard⟩) (r := .store h') hT hE hX f0_ok ih0_ok hg hv rfl) rfl kk

/-- A value that no memory changes. -/
theorem d_any (hg : gw all (restr fr (looksT all ⟨some d, op, ty, pos, after, guard⟩)) ⟨some d, op, ty, pos, after, guard⟩ = some true) (hd : Nat.blt d N = true)
    (hs : ∀ h, StepTo P G ⟨some d, op, ty, pos, after, guard⟩ (restr fr (looksT all ⟨some d, op, ty, pos, after, guard⟩)) h v h) (kk : DrK P G N all h0 rest (.q false :: acc) R ((d, v) :: fr) h) : DrK P G N all h0 (⟨some d, op, ty, pos, after, guard⟩ :: rest) acc R fr h :=
  DrK.cons (v := some v) (k := .q false) ⟨hg, rfl, fun g => OpTo.step (hs _)⟩ hd kk
/-- A value that is read. -/
theorem d_read (hg : gw all (restr fr (looksT all ⟨some d, op, ty, pos, after, guard⟩)) ⟨some d, op, ty, pos, after, guard⟩ = some true) (hd : Nat.blt d N = true)
    (hs : ∀ g, StepTo P G ⟨some d, op, ty, pos, after, guard⟩ (restr fr (looksT all ⟨some d, op, ty, pos, after, guard⟩)) (h0 ++ g) v (h0 ++ g)) (kk : DrK P G N all h0 rest (.q true :: acc) R ((d, v) :: fr) h) : DrK P G N all h0 (⟨some d, op, ty, pos, after, guard⟩ :: rest) acc R fr h :=
  DrK.cons (v := some v) (k := .q true) ⟨hg, rfl, fun g => OpTo.step (hs g)⟩ hd kk
/-- A change, or what is read behind one. -/
theorem d_chg (hg : gw all (restr fr (looksT all ⟨some d, op, ty, pos, after, guard⟩)) ⟨some d, op, ty, pos, after, guard⟩ = some true) (hd : Nat.blt d N = true)
    (hs : StepTo P G ⟨some d, op, ty, pos, after, guard⟩ (restr fr (looksT all ⟨some d, op, ty, pos, after, guard⟩)) h v h') (kk : DrK P G N all h0 rest (.c false :: acc) R ((d, v) :: fr) h') : DrK P G N all h0 (⟨some d, op, ty, pos, after, guard⟩ :: rest) acc R fr h :=
  DrK.cons (v := some v) (k := .c false) ⟨hg, OpTo.step hs, by simp⟩ hd kk
/-- Calls. -/
theorem d_callP {c : Call} {f : FuncId} {as : List AV} (hg : gw all (restr fr (looksT all ⟨some d, .call c, ty, pos, after, guard⟩)) ⟨some d, .call c, ty, pos, after, guard⟩ = some true) (hd : Nat.blt d N = true)
    (hc : calleeOf (restr fr (looksT all ⟨some d, .call c, ty, pos, after, guard⟩)) c = some (f, as)) (hk : FnOk P f) (hs : PureF P G f as v) (kk : DrK P G N all h0 rest (.q false :: acc) R ((d, v) :: fr) h) : DrK P G N all h0 (⟨some d, .call c, ty, pos, after, guard⟩ :: rest) acc R fr h :=
  DrK.cons (v := some v) (k := .q false) ⟨hg, rfl, fun g => OpTo.ret rfl hc hk (hs _)⟩ hd kk
theorem d_callR {c : Call} {f : FuncId} {as : List AV} (hg : gw all (restr fr (looksT all ⟨some d, .call c, ty, pos, after, guard⟩)) ⟨some d, .call c, ty, pos, after, guard⟩ = some true) (hd : Nat.blt d N = true)
    (hc : calleeOf (restr fr (looksT all ⟨some d, .call c, ty, pos, after, guard⟩)) c = some (f, as)) (hk : FnOk P f) (hs : ∀ g, RetTo P G f as (h0 ++ g) v (h0 ++ g)) (kk : DrK P G N all h0 rest (.q true :: acc) R ((d, v) :: fr) h) : DrK P G N all h0 (⟨some d, .call c, ty, pos, after, guard⟩ :: rest) acc R fr h :=
  DrK.cons (v := some v) (k := .q true) ⟨hg, rfl, fun g => OpTo.ret rfl hc hk (hs g)⟩ hd kk
theorem d_callM {c : Call} {f : FuncId} {as : List AV} (hg : gw all (restr fr (looksT all ⟨some d, .call c, ty, pos, after, guard⟩)) ⟨some d, .call c, ty, pos, after, guard⟩ = some true) (hd : Nat.blt d N = true)
    (hc : calleeOf (restr fr (looksT all ⟨some d, .call c, ty, pos, after, guard⟩)) c = some (f, as)) (hk : FnOk P f) (hs : RetTo P G f as h v h') (kk : DrK P G N all h0 rest (.c false :: acc) R ((d, v) :: fr) h') : DrK P G N all h0 (⟨some d, .call c, ty, pos, after, guard⟩ :: rest) acc R fr h :=
  DrK.cons (v := some v) (k := .c false) ⟨hg, OpTo.ret rfl hc hk hs, by simp⟩ hd kk
end
end Go.Fm
