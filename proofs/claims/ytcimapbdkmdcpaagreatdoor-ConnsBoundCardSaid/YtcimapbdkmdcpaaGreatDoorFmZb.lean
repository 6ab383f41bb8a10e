/- FM, a program logic over the given model with abstract values and an abstract heap: general lemmas. No statement is closed in this text. -/
import Derived.Test.YtcimapbdkmdcpaaGreatDoorFmZa
set_option linter.unusedVariables false
set_option linter.unusedSimpArgs false
namespace Go.Fm
open Go

section
variable {P : Program} {Tb : TypeId → Option TInfo} {G : Nat → Nat → Option AV} {N n : Nat} {E : TypeId → Bool} {X : FuncId → Option XK} {fr fs : Frame} {h h' h0 : Heap} {o : Oper} {all : Array Oper} {rest : List Oper} {Q : AExit → Frame → Heap → Prop} {R : Frame → Heap → Prop} {acc : List Kd} {v : AV} {g : AObj} {k : Kd}
  {d : Nat} {op : Op} {ty : TypeId} {pos : String} {after : Array Edge} {guard : Option (Nat × Bool)}

theorem st_sum (hT : TbOk P Tb) {bo : BinOp} {t u : TypeId} {x y : Operand} {k k' : IntKind} {a b v : Int} (hx : ev fs x = some (.int k a)) (hy : ev fs y = some (.int k' b)) (hk : kindEq k k' = true) (hs : sumV bo a b = some v) (hr : inR k v) (h : Heap) :
    StepTo P G ⟨some d, .binOp bo t x y u, ty, pos, after, guard⟩ fs h (.int k v) h := by
  refine pure_step hT (Tb := Tb) ?_
  cases kindEq_eq hk
  cases bo <;> simp [sumV] at hs <;> subst hs <;> simp [pureOp, hx, hy, binA, hk, arith, wrap_inR hr]

theorem st_cmp (hT : TbOk P Tb) {bo : BinOp} {t u : TypeId} {x y : Operand} {k k' : IntKind} {a b : Int} {p : Prop} (hx : ev fs x = some (.int k a)) (hy : ev fs y = some (.int k' b)) (hk : kindEq k k' = true) (hs : cmpP bo a b = some p) :
    ∃ c, BD p c ∧ ∀ h, StepTo P G ⟨some d, .binOp bo t x y u, ty, pos, after, guard⟩ fs h (.bool c) h := by
  have key : ∀ c : Bool, (∀ h, pureOp Tb G fs h (.binOp bo t x y u) = some (.bool c)) → ∀ h, StepTo P G ⟨some d, .binOp bo t x y u, ty, pos, after, guard⟩ fs h (.bool c) h := fun c q h => pure_step hT (Tb := Tb) (q h)
  cases bo <;> simp only [cmpP, Option.some.injEq, reduceCtorEq] at hs <;> subst hs
  · exact ⟨a == b, .of (by simp), key _ fun h => by simp only [pureOp, hx, hy, binA, hk, cond_true, arith]⟩
  · exact ⟨a != b, .of (by simp), key _ fun h => by simp only [pureOp, hx, hy, binA, hk, cond_true, arith]⟩
  all_goals exact ⟨_, .mk _, key _ fun h => by simp only [pureOp, hx, hy, binA, hk, cond_true, arith]⟩

theorem st_cmpS (hT : TbOk P Tb) {bo : BinOp} {t u : TypeId} {x y : Operand} {a b : List UInt8} {p : Prop} (hx : ev fs x = some (.str a)) (hy : ev fs y = some (.str b)) (hs : eqP bo a b = some p) :
    ∃ c, BD p c ∧ ∀ h, StepTo P G ⟨some d, .binOp bo t x y u, ty, pos, after, guard⟩ fs h (.bool c) h := by
  cases bo <;> simp only [eqP, Option.some.injEq, reduceCtorEq] at hs <;> subst hs
  · exact ⟨a == b, .of (by simp), fun h => pure_step hT (Tb := Tb) (by simp only [pureOp, hx, hy, binA, strOp])⟩
  · exact ⟨!(a == b), .of (by simp), fun h => pure_step hT (Tb := Tb) (by simp only [pureOp, hx, hy, binA, strOp])⟩

/-- Two structs compared, in a walk: whether they are one is left open. -/
def eqQP (op : BinOp) (r : Bool) : Option Prop := match op with
  | .eql => some (r = true)
  | .neq => some (r = false)
  | _ => none
theorem st_eqW (hT : TbOk P Tb) (hE : EqOk P E) {op : BinOp} {t u : TypeId} {x y : Operand} {xs ys : List AV} {r : Bool} {p : Prop} (hx : ev fs x = some (.agg xs)) (hy : ev fs y = some (.agg ys)) (hEt : E t = true)
    (hr : eqV Tb E 64 t (.agg xs) (.agg ys) = some r) (hc : eqQP op r = some p) : ∃ c, BD p c ∧ ∀ h, StepTo P G ⟨some d, .binOp op t x y u, ty, pos, after, guard⟩ fs h (.bool c) h := by
  cases op <;> simp only [eqQP, Option.some.injEq, reduceCtorEq] at hc <;> subst hc
  · exact ⟨r, .of Iff.rfl, fun h => st_eqS hT hE 64 rfl rfl hx hy hEt hr rfl⟩
  · exact ⟨!r, .of (by cases r <;> simp), fun h => st_eqS hT hE 64 rfl rfl hx hy hEt hr rfl⟩

theorem g_eqW (hT : TbOk P Tb) (hE : EqOk P E) {op : BinOp} {t u : TypeId} {x y : Operand} {xs ys : List AV} {r : Bool} {p : Prop} (hd : Nat.blt d N = true) (hx : ev fr x = some (.agg xs)) (hy : ev fr y = some (.agg ys)) (hEt : E t = true)
    (hr : eqV Tb E 64 t (.agg xs) (.agg ys) = some r) (hc : eqQP op r = some p) (kk : ∀ c, BD p c → opsWP P G N n all rest Q ((d, .bool c) :: fr) h) : opsGo P G N n all ⟨some d, .binOp op t x y u, ty, pos, after, guard⟩ rest Q fr h := by
  obtain ⟨c, q1, q2⟩ := st_eqW (G := G) (d := d) (ty := ty) (pos := pos) (after := after) (guard := guard) (u := u) hT hE hx hy hEt hr hc
  exact g_step hd (q2 h) (kk c q1)

theorem st_loadA (hT : TbOk P Tb) {t : TypeId} {p : Operand} {i : TInfo} {id off : Nat} {cs : List AV} {ty' : TypeId} {opn wr : Bool} (hp : ev fs p = some (.ptr id off)) (hi : Tb t = some i) (hob : nth h id = some (.cells cs ty' opn wr)) (hv : loadAV i cs off = some v) :
    StepTo P G ⟨some d, .load t p, ty, pos, after, guard⟩ fs h v h :=
  pure_step hT (Tb := Tb) (by simp only [pureOp, hp, hi, cellsAt, hob, hv])
theorem g_load (hT : TbOk P Tb) {t : TypeId} {p : Operand} {i : TInfo} {id off : Nat} {cs : List AV} {ty' : TypeId} {opn wr : Bool} (hd : Nat.blt d N = true) (hp : ev fr p = some (.ptr id off)) (hi : Tb t = some i) (hob : nth h id = some (.cells cs ty' opn wr)) (hv : loadAV i cs off = some v)
    (kk : opsWP P G N n all rest Q ((d, v) :: fr) h) : opsGo P G N n all ⟨some d, .load t p, ty, pos, after, guard⟩ rest Q fr h :=
  g_step hd (st_loadA hT hp hi hob hv) kk
theorem d_load (hT : TbOk P Tb) {t : TypeId} {p : Operand} {i : TInfo} {id off : Nat} {cs : List AV} {ty' : TypeId} {opn wr : Bool} (hg : gw all (restr fr (looksT all ⟨some d, .load t p, ty, pos, after, guard⟩)) ⟨some d, .load t p, ty, pos, after, guard⟩ = some true) (hd : Nat.blt d N = true)
    (hp : ev (restr fr (looksT all ⟨some d, .load t p, ty, pos, after, guard⟩)) p = some (.ptr id off)) (hi : Tb t = some i) (hob : nth h0 id = some (.cells cs ty' opn wr)) (hv : loadAV i cs off = some v)
    (kk : DrK P G N all h0 rest (.q true :: acc) R ((d, v) :: fr) h) : DrK P G N all h0 (⟨some d, .load t p, ty, pos, after, guard⟩ :: rest) acc R fr h :=
  d_read hg hd (fun g => st_loadA hT hp hi (Hsub.app h0 g _ _ hob) hv) kk

section
variable (hg : gw all (restr fr (looksT all ⟨some d, op, ty, pos, after, guard⟩)) ⟨some d, op, ty, pos, after, guard⟩ = some true)
theorem d_bd {p : Prop} (hd : Nat.blt d N = true) (hg : gw all (restr fr (looksT all ⟨some d, op, ty, pos, after, guard⟩)) ⟨some d, op, ty, pos, after, guard⟩ = some true)
    (hs : ∃ c, BD p c ∧ ∀ h, StepTo P G ⟨some d, op, ty, pos, after, guard⟩ (restr fr (looksT all ⟨some d, op, ty, pos, after, guard⟩)) h (.bool c) h)
    (kk : ∀ c, BD p c → DrK P G N all h0 rest (.q false :: acc) R ((d, .bool c) :: fr) h) : DrK P G N all h0 (⟨some d, op, ty, pos, after, guard⟩ :: rest) acc R fr h := by
  obtain ⟨c, q1, q2⟩ := hs
  exact d_any hg hd q2 (kk c q1)
end
end
end Go.Fm
