/- FM, a program logic over the given model with abstract values and an abstract heap: general lemmas. No statement is closed in this text. -/
import Derived.Test.YtcimapbdkmdcpaaGreatDoorFmU
set_option linter.unusedVariables false
set_option linter.unusedSimpArgs false
namespace Go.Fm
open Go

def Hsub (h h2 : Heap) : Prop := ∀ i o, nth h i = some o → nth h2 i = some o
theorem Hsub.refl (h : Heap) : Hsub h h := fun _ _ e => e
theorem Hsub.app (h g : Heap) : Hsub h (h ++ g) := fun i o e => by
  rw [nth_eq] at *
  rw [List.getElem?_append_left (lt_of_get e)]; exact e

theorem cellsAt_mono {h h2 : Heap} (hs : Hsub h h2) {p : AV} {r : List AV × Nat} (e : cellsAt h p = some r) : cellsAt h2 p = some r := by
  unfold cellsAt at *
  split at e
  · split at e
    · rename_i q; simp only [hs _ _ q]; exact e
    · simp at e
  · simp at e

theorem atOk_mono {Tb : TypeId → Option TInfo} {h h2 : Heap} (hs : Hsub h h2) {id off len es : Nat} {cap : ACap} (e : atOk Tb h id off len es cap = true) : atOk Tb h2 id off len es cap = true := by
  unfold atOk at *
  split at e
  · rfl
  · exact e
  · rename_i eo prev hne
    cases b0 : Nat.beq len 0 with
    | true => split <;> first | rfl | simp_all
    | false =>
      simp only [b0, cond_false] at e ⊢
      split at e
      · rename_i q; simp only [hs _ _ q]; exact e
      · simp at e
theorem srcA_mono {Tb : TypeId → Option TInfo} {h h2 : Heap} (hs : Hsub h h2) {es : Nat} {v : AV} {r : Nat × List AV} (e : srcA Tb h es v = some r) : srcA Tb h2 es v = some r := by
  unfold srcA at *
  split at e
  · split at e
    · rename_i hc q; simp only [atOk_mono hs hc, hs _ _ q]; exact e
    · simp at e
  · exact e
  · exact e
  · simp at e

theorem pureOp_mono {Tb : TypeId → Option TInfo} {G : Nat → Nat → Option AV} {fr : Frame} {h h2 : Heap} (hs : Hsub h h2) {op : Op} {v : AV} (e : pureOp Tb G fr h op = some v) : pureOp Tb G fr h2 op = some v := by
  cases op
  case load t p =>
    simp only [pureOp] at *
    split at e
    · split at e
      · exact e
      · split at e
        · rename_i q; rw [cellsAt_mono hs q]; exact e
        · simp at e
    · simp at e
  case call c =>
    obtain ⟨callee, args, ts⟩ := c
    cases callee
    case builtin b => cases b <;> exact e
    all_goals exact e
  all_goals exact e

/-! Operations that read memory. -/
def opnSl (Tb : TypeId → Option TInfo) (fr : Frame) (h : Heap) (t : TypeId) (x : Operand) (lo hi mx : Option Operand) : Option AV :=
  match Tb t, ev fr x, boundOf fr lo 0 with
  | some i, some (.slc id 0 len (.opn 0 0)), some l => match i.uk, nth h id, boundOf fr hi len with
    | .slc e, some (.cells cs e' true _), some u => bif Nat.beq e e' then (match Tb e with
      | some ei => bif Nat.blt 0 ei.size then (bif leI 0 l then (bif leI l u then (match mx with
        | none => bif Nat.ble (u.toNat * ei.size) cs.length then some (.slc id (l.toNat * ei.size) (u.toNat - l.toNat) (.opn l.toNat 0)) else none
        | some y => match boundOf fr (some y) 0, hmOk hi (some y) with
          | some m, true => bif leI u m then (bif Nat.ble (m.toNat * ei.size) cs.length then some (.slc id (offA l m 0 ei.size) (u.toNat - l.toNat) (.exact (m.toNat - l.toNat))) else none) else none
          | _, _ => none) else none) else none) else none
      | none => none) else none
    | _, _, _ => none
  | _, _, _ => none

def opnSg (Tb : TypeId → Option TInfo) (fr : Frame) (h : Heap) (t : TypeId) (x : Operand) (lo hi mx : Option Operand) : Option AV :=
  match Tb t, ev fr x, boundOf fr lo 0, mx with
  | some i, some (.slc id off len (.opn eo prev)), some l, none => match i.uk, nth h id, boundOf fr hi len with
    | .slc e, some (.cells cs e' true _), some u => bif Nat.beq e e' then (match Tb e with
      | some ei => bif Nat.blt 0 ei.size then (bif Nat.beq off (eo * ei.size) then (bif Nat.ble (off + len * ei.size) cs.length then (bif leI 1 l then (bif leI l u then (bif leI u len then
          some (.slc id (off + l.toNat * ei.size) (u.toNat - l.toNat) (.opn (eo + l.toNat) off)) else none) else none) else none) else none) else none) else none
      | none => none) else none
    | _, _, _ => none
  | _, _, _, _ => none

def ixaB (Tb : TypeId → Option TInfo) (fr : Frame) (h : Heap) (t : TypeId) (x y : Operand) : Option AV :=
  match Tb t, ev fr x, ev fr y with
  | some i, some (.slc id off len cap), some (.int _ m) => match i.uk with
    | .slc e => match Tb e with
      | some ei => bif atOk Tb h id off len ei.size cap then (bif inB m len then some (.ptr id (off + m.toNat * ei.size)) else none) else none
      | none => none
    | _ => none
  | _, _, _ => none

def cvtA (Tb : TypeId → Option TInfo) (fr : Frame) (h : Heap) (s d : TypeId) (x : Operand) : Option AV :=
  match Tb s, Tb d, ev fr x with
  | some si, some di, some vx => match si.uk, di.uk with
    | .ptr t, .unsf => match Tb t, vx with
      | some ti, .ptr id off => bif Nat.blt 0 ti.size then (match nth h id with
        | some (.cells cs _ _ _) => bif Nat.blt off cs.length then some (.ptr id off) else none
        | _ => none) else none
      | _, _ => none
    | .unsf, .ptr u => match Tb u, vx with
      | some ui, .ptr id 0 => bif Nat.blt 0 ui.size then (match nth h id with
        | some (.cells cs u' false _) => bif Nat.beq u u' then (bif Nat.beq cs.length ui.size then some (.ptr id 0) else none) else none
        | _ => none) else none
      | _, _ => none
    | .slc e, .str => match Tb e with
      | some ei => match ei.uk, isSlc vx, srcA Tb h 1 vx with
        | .int .u8, true, some (_, xs) => match bytesA xs with
          | some r => some (.str r)
          | none => none
        | _, _, _ => none
      | none => none
    | _, _ => none
  | _, _, _ => none

def sdA (Tb : TypeId → Option TInfo) (fr : Frame) (h : Heap) (x : Operand) : Option AV :=
  match ev fr x with
  | some (.slc id 0 len (.opn 0 0)) => match nth h id with
    | some (.cells cs e true _) => match Tb e with
      | some ei => bif Nat.blt 0 len then (bif Nat.blt 0 ei.size then (bif Nat.ble (len * ei.size) cs.length then some (.ptr id 0) else none) else none) else none
      | none => none
    | _ => none
  | _ => none

def rdA (Tb : TypeId → Option TInfo) (fr : Frame) (h : Heap) : Op → Option AV
  | .slice t x lo hi mx => match opnSl Tb fr h t x lo hi mx with
    | some v => some v
    | none => opnSg Tb fr h t x lo hi mx
  | .indexAddr t x y => ixaB Tb fr h t x y
  | .convert s d x => cvtA Tb fr h s d x
  | .call { callee := .builtin .unsafeSliceData, args := args, argTypes := _ } => match args.toList with
    | [x] => sdA Tb fr h x
    | _ => none
  | .call { callee := .builtin .append, args := args, argTypes := ts } => match args.toList, ts.toList with
    | [x, y], [t, u] => match appTy Tb t u, ev fr x, ev fr y with
      | some (_, ei, _), some .nils, some vy => match srcA Tb h ei.size vy with
        | some (0, _) => some .nils
        | _ => none
      | _, _, _ => none
    | _, _ => none
  | .next x true => match ev fr x with
    | some (.ptr id 0) => match nth h id with
      | some (.sit s p) => bif Nat.ble s.length p then some (.tup [.bool false]) else none
      | _ => none
    | _ => none
  | _ => none

section
variable {P : Program} {Tb : TypeId → Option TInfo} {G : Nat → Nat → Option AV} {μ κ : Nat → Nat} {h h2 : Heap} {N : Nat} {fr : Frame} {a : Act} {w : World} {E : TypeId → Bool} {X : FuncId → Option XK} {o : Oper} {v : AV}

theorem opnSl_ok (hT : TbOk P Tb) (hs : Hsub h h2) {t : TypeId} {x : Operand} {lo hi mx : Option Operand} (ho : o.op = .slice t x lo hi mx) (hv : opnSl Tb fr h t x lo hi mx = some v) : StepTo P G o fr h2 v h2 := by
  unfold opnSl at hv
  split at hv
  · rename_i i id len l hi' hx hl
    split at hv
    · rename_i e cs e' wr u hk hob hu
      cases b0 : Nat.beq e e' with
      | false => simp [b0] at hv
      | true =>
        have := Nat.eq_of_beq_eq_true b0
        subst this
        simp only [b0, cond_true] at hv
        split at hv
        · rename_i ei hei
          cases b1 : Nat.blt 0 ei.size <;> cases b3 : leI 0 l <;> cases b4 : leI l u <;> simp [b1, b3, b4] at hv
          cases mx with
          | none =>
            simp only at hv
            cases b5 : Nat.ble (u.toNat * ei.size) cs.length with
            | false => simp [b5] at hv
            | true =>
              simp [b5] at hv; subst hv
              exact st_slice_opn hT ho hi' hk hei hx (hs _ _ hob) b1 hl hu ⟨leI_ok b3, leI_ok b4⟩ (Nat.le_of_ble_eq_true b5)
          | some y =>
            simp only at hv
            split at hv
            · rename_i m hm hxx
              cases b5 : leI u m <;> cases b6 : Nat.ble (m.toNat * ei.size) cs.length <;> simp [b5, b6] at hv
              subst hv
              have := offA_ok (off := 0) (es := ei.size) (Int.le_trans (leI_ok b4) (leI_ok b5))
              simp only [Nat.zero_add] at this
              exact st_slice_opn3 hT _ ho hi' hk hei hx (hs _ _ hob) b1 hl hu hm hxx ⟨leI_ok b3, leI_ok b4, leI_ok b5⟩ (Nat.le_of_ble_eq_true b6) this
            · simp at hv
        · simp at hv
    · simp at hv
  · simp at hv

theorem opnSg_ok (hT : TbOk P Tb) (hs : Hsub h h2) {t : TypeId} {x : Operand} {lo hi mx : Option Operand} (ho : o.op = .slice t x lo hi mx) (hv : opnSg Tb fr h t x lo hi mx = some v) : StepTo P G o fr h2 v h2 := by
  unfold opnSg at hv
  split at hv
  · rename_i i id off len eo prev l hi' hx hl
    split at hv
    · rename_i e cs e' wr u hk hob hu
      cases b0 : Nat.beq e e' with
      | false => simp [b0] at hv
      | true =>
        have := Nat.eq_of_beq_eq_true b0
        subst this
        simp only [b0, cond_true] at hv
        split at hv
        · rename_i ei hei
          cases b1 : Nat.blt 0 ei.size <;> cases b2 : Nat.beq off (eo * ei.size) <;> cases b3 : Nat.ble (off + len * ei.size) cs.length <;> cases b4 : leI 1 l <;> cases b5 : leI l u <;> cases b6 : leI u len <;> simp [b1, b2, b3, b4, b5, b6] at hv
          subst hv
          have := leI_ok b4
          exact st_slice_opnG hT ho hi' hk hei hx (hs _ _ hob) b1 (Nat.eq_of_beq_eq_true b2) (Nat.le_of_ble_eq_true b3) hl hu ⟨by omega, leI_ok b5, leI_ok b6⟩
        · simp at hv
    · simp at hv
  · simp at hv

theorem ixaB_ok (hT : TbOk P Tb) (hs : Hsub h h2) {t : TypeId} {x y : Operand} (ho : o.op = .indexAddr t x y) (hv : ixaB Tb fr h t x y = some v) : StepTo P G o fr h2 v h2 := by
  unfold ixaB at hv
  split at hv
  · rename_i i id off len cap k m hi hx hy
    split at hv
    · rename_i e hk
      split at hv
      · rename_i ei hei
        cases hc : atOk Tb h id off len ei.size cap with
        | false => simp [hc] at hv
        | true =>
          cases hb : inB m len with
          | false => simp [hc, hb] at hv
          | true => simp [hc, hb] at hv; subst hv; exact st_ixa_at hT ho hi hk hei hx hy (atOk_mono hs hc) (inB_ok hb)
      · simp at hv
    · simp at hv
  · simp at hv

theorem cvtA_ok (hT : TbOk P Tb) (hs : Hsub h h2) {s d : TypeId} {x : Operand} (ho : o.op = .convert s d x) (hv : cvtA Tb fr h s d x = some v) : StepTo P G o fr h2 v h2 := by
  unfold cvtA at hv
  split at hv
  · rename_i si di vx hsi hdi hx
    split at hv
    · rename_i t hsk hdk
      split at hv
      · rename_i ti id off hti
        cases b1 : Nat.blt 0 ti.size with
        | false => simp [b1] at hv
        | true =>
          simp only [b1, cond_true] at hv
          split at hv
          · rename_i cs ty opn wr hob
            cases b2 : Nat.blt off cs.length with
            | false => simp [b2] at hv
            | true => simp [b2] at hv; subst hv; exact st_toUnsafe hT ho hsi hsk hti b1 hdi hdk hx (hs _ _ hob) b2
          · simp at hv
      · simp at hv
    · rename_i u hsk hdk
      split at hv
      · rename_i ui id hui
        cases b1 : Nat.blt 0 ui.size with
        | false => simp [b1] at hv
        | true =>
          simp only [b1, cond_true] at hv
          split at hv
          · rename_i cs u' wr hob
            cases b2 : Nat.beq u u' with
            | false => simp [b2] at hv
            | true =>
              have := Nat.eq_of_beq_eq_true b2
              subst this
              cases b3 : Nat.beq cs.length ui.size with
              | false => simp [b2, b3] at hv
              | true => simp [b2, b3] at hv; subst hv; exact st_fromUnsafe hT ho hsi hsk hui b1 hdi hdk hx (hs _ _ hob) b3
          · simp at hv
      · simp at hv
    · rename_i e hsk hdk
      split at hv
      · rename_i ei hei
        split at hv
        · rename_i m xs hek hsl hsrc
          split at hv
          · rename_i r hr
            simp at hv; subst hv
            exact st_bytesStr hT ho hsi hsk hei hek hdi hdk hx (srcA_mono hs hsrc) hsl hr
          · simp at hv
        · simp at hv
      · simp at hv
    · simp at hv
  · simp at hv

theorem rdA_ok (hT : TbOk P Tb) (hs : Hsub h h2) {op : Op} (ho : o.op = op) (hv : rdA Tb fr h op = some v) : StepTo P G o fr h2 v h2 := by
  unfold rdA at hv
  split at hv
  · split at hv
    · rename_i q; simp at hv; subst hv; exact opnSl_ok hT hs ho q
    · exact opnSg_ok hT hs ho hv
  · exact ixaB_ok hT hs ho hv
  · exact cvtA_ok hT hs ho hv
  · rename_i args ts
    split at hv
    · rename_i x hx
      have : args = #[x] := by apply Array.ext'; exact hx
      subst this
      unfold sdA at hv
      split at hv
      · rename_i id len hx
        split at hv
        · rename_i cs e wr hob
          split at hv
          · rename_i ei hei
            cases b1 : Nat.blt 0 len <;> cases b2 : Nat.blt 0 ei.size <;> cases b3 : Nat.ble (len * ei.size) cs.length <;> simp [b1, b2, b3] at hv
            subst hv
            exact st_sliceDataO hT ho hx (by simpa [Nat.blt_eq] using b1) (hs _ _ hob) hei b2 (Nat.le_of_ble_eq_true b3)
          · simp at hv
        · simp at hv
      · simp at hv
    · simp at hv
  · rename_i args ts
    split at hv
    · rename_i x y t u hx ht
      have : args = #[x, y] := by apply Array.ext'; exact hx
      subst this
      have : ts = #[t, u] := by apply Array.ext'; exact ht
      subst this
      split at hv
      · rename_i e ei z vy hA hx hy
        split at hv
        · rename_i xs hsrc
          simp at hv; subst hv
          exact st_append_nil0 hT ho (appTy_ok hA) hx hy (srcA_mono hs hsrc)
        · simp at hv
      · simp at hv
    · simp at hv
  · rename_i x
    split at hv
    · rename_i id hx
      split at hv
      · rename_i s p hob
        cases b1 : Nat.ble s.length p with
        | false => simp [b1] at hv
        | true => simp [b1] at hv; subst hv; exact st_nextEnd ho hx (hs _ _ hob) (Nat.le_of_ble_eq_true b1)
      · simp at hv
    · simp at hv
  · simp at hv
end

/-! Operations that change memory. -/
inductive MRes where
  | grow (v : AV) (g : AObj)
  | set (v : AV) (h' : Heap)
  | store (h' : Heap)

def appM (Tb : TypeId → Option TInfo) (fr : Frame) (h : Heap) (t u : TypeId) (x y : Operand) : Option MRes :=
  match appTy Tb t u, ev fr x, ev fr y with
  | some (e, ei, z), some vx, some vy => match srcA Tb h ei.size vy with
    | some (m, xs) => match vx with
      | .nils => match m with
        | 0 => some (.set .nils h)
        | m + 1 => bif Nat.ble ((m + 1) * ei.bytes) 140737488355328 then (bif Nat.ble (m + 1) 9223372036854775807 then some (.grow (.slc h.length 0 (m + 1) (.opn 0 0)) (.cells xs e true true)) else none) else none
      | .slc id 0 len (.opn 0 0) => match nth h id with
        | some (.cells cs e' true true) => bif Nat.beq e e' then (bif allOne xs then (bif (bif Nat.blt 0 ei.size then Nat.ble ((len + m) * ei.size) cs.length else false) then (match over cs (len * ei.size) xs with
            | some cs' => some (.set (.slc id 0 (len + m) (.opn 0 0)) (setNth h id (.cells cs' e true true)))
            | none => none) else bif Nat.ble (len * ei.size) cs.length then (bif Nat.ble ((len + m) * ei.bytes) 140737488355328 then (bif Nat.ble (len + m) 9223372036854775807 then
            some (.set (.slc h.length 0 (len + m) (.opn 0 0)) (setNth h id .dead ++ [.cells (cs.take (len * ei.size) ++ xs) e true true])) else none) else none) else none) else none) else none
        | _ => none
      | .slc id off len (.exact cap) => match Nat.ble (len + m) cap with
        | true => match nth h id with
          | some (.cells cs ty opn true) => bif allOne xs then (match over cs (off + len * ei.size) xs with
            | some cs' => some (.set (.slc id off (len + m) (.exact cap)) (setNth h id (.cells cs' ty opn true)))
            | none => none) else none
          | _ => none
        | false => match srcA Tb h ei.size (.slc id off len (.exact cap)) with
          | some (_, old) => bif Nat.ble ((len + m) * ei.bytes) 140737488355328 then (bif Nat.ble (len + m) 9223372036854775807 then some (.grow (.slc h.length 0 (len + m) (.opn 0 0)) (.cells (old ++ xs) e true true)) else none) else none
          | none => none
      | _ => none
    | none => none
  | _, _, _ => none

def cpyM (Tb : TypeId → Option TInfo) (fr : Frame) (h : Heap) (t : TypeId) (x y : Operand) : Option MRes :=
  match Tb t, ev fr x, ev fr y with
  | some i, some vx, some vy => match i.uk with
    | .slc e => match Tb e with
      | some ei => match srcA Tb h ei.size vy with
        | some (m, xs) => match vx with
          | .nils => some (.set (.int .i64 0) h)
          | .slc id off dl cap => match nth h id with
            | some (.cells cs ty opn true) => bif atOk Tb h id off dl ei.size cap then (bif allOne xs then (match over cs off (xs.take (min m dl * ei.size)) with
              | some cs' => some (.set (.int .i64 ((min m dl : Nat) : Int)) (setNth h id (.cells cs' ty opn true)))
              | none => none) else none) else none
            | _ => none
          | _ => none
        | none => none
      | none => none
    | _ => none
  | _, _, _ => none

def clrM (Tb : TypeId → Option TInfo) (fr : Frame) (h : Heap) (t : TypeId) (x : Operand) : Option MRes :=
  match Tb t, ev fr x with
  | some i, some (.slc id off dl cap) => match i.uk with
    | .slc e => match Tb e with
      | some ei => match ei.zero, nth h id with
        | some z, some (.cells cs ty opn true) => bif Nat.beq z.cells.length ei.size then (bif atOk Tb h id off dl ei.size cap then (bif allOne z.cells then (match over cs off (repl dl z.cells) with
          | some cs' => some (.set (.tup []) (setNth h id (.cells cs' ty opn true)))
          | none => none) else none) else none) else none
        | _, _ => none
      | none => none
    | _ => none
  | _, _ => none

def stoM (Tb : TypeId → Option TInfo) (fr : Frame) (h : Heap) (t : TypeId) (p x : Operand) : Option MRes :=
  match Tb t, ev fr p, ev fr x with
  | some i, some (.ptr id off), some v => match nth h id with
    | some (.cells cs ty opn true) => bif Nat.beq v.cells.length i.size then (bif allOne v.cells then (match over cs off v.cells with
      | some cs' => some (.store (setNth h id (.cells cs' ty opn true)))
      | none => none) else none) else none
    | _ => none
  | _, _, _ => none

def strM (Tb : TypeId → Option TInfo) (fr : Frame) (h : Heap) (t : TypeId) (x y : Operand) : Option MRes :=
  match Tb t, ev fr x, ev fr y with
  | some ti, some (.ptr id 0), some (.int .i64 (.ofNat n)) => match ti.uk, nth h id with
    | .ptr e, some (.cells cs e' opn true) => bif Nat.beq e e' then (match Tb e with
      | some ei => match bytesA (cs.take n) with
        | some l => bif Nat.beq ei.size 1 then (bif Nat.beq l.length n then (bif eqAVs (cs.take n) (l.map byteAV) then (bif Nat.blt 0 n then (bif Nat.ble n 9223372036854775807 then some (.set (.str l) (setNth h id (.cells cs e opn false))) else none) else none) else none) else none) else none
        | none => none
      | none => none) else none
    | _, _ => none
  | _, _, _ => none

def memA (Tb : TypeId → Option TInfo) (X : FuncId → Option XK) (fr : Frame) (h : Heap) : Op → Option MRes
  | .box t x => match ev fr x with
    | some v => some (.grow (.ptr h.length 0) (.cells v.cells t false true))
    | none => none
  | .alloc t => match Tb t with
    | some i => match i.zero with
      | some z => some (.grow (.ptr h.length 0) (.cells z.cells t false true))
      | none => none
    | none => none
  | .buildSlice t len ps => match Tb t, evParts fr ps.toList with
    | some i, some vs => match i.uk with
      | .slc e => match Tb e with
        | some ei => match ei.zero with
          | some z => bif Nat.beq z.cells.length ei.size then (bif Nat.ble (len * ei.size) 16777216 then (match fillA (fun j => some (j * ei.size, ei.size)) (repl len z.cells) vs with
            | some cs => some (.grow (.slc h.length 0 len (.exact len)) (.cells cs e false true))
            | none => none) else none) else none
          | none => none
        | none => none
      | _ => none
    | _, _ => none
  | .makeSlice t x y => match Tb t, ev fr x, ev fr y with
    | some i, some (.int _ l), some (.int _ c) => match i.uk with
      | .slc e => match Tb e with
        | some ei => match ei.zero with
          | some z => bif Nat.beq z.cells.length ei.size then (bif leI 0 l then (bif leI l c then (bif Nat.ble (c.toNat * ei.bytes) 281474976710656 then (bif leI c 9223372036854775807 then some (.grow (.slc h.length 0 l.toNat (.exact c.toNat)) (.cells (repl c.toNat z.cells) e false true)) else none) else none) else none) else none) else none
          | none => none
        | none => none
      | _ => none
    | _, _, _ => none
  | .convert s d x => match Tb s, Tb d, ev fr x with
    | some si, some di, some (.str r) => match si.uk, di.uk with
      | .str, .slc e => match Tb e with
        | some ei => match ei.uk with
          | .int .u8 => bif Nat.beq ei.size 1 then some (.grow (.slc h.length 0 r.length (.opn 0 0)) (.cells (r.map byteAV) e true true)) else none
          | _ => none
        | none => none
      | _, _ => none
    | _, _, _ => none
  | .range t x => match Tb t, ev fr x with
    | some i, some (.str s) => match i.uk with
      | .str => some (.grow (.ptr h.length 0) (.sit s 0))
      | _ => none
    | _, _ => none
  | .next x true => match ev fr x with
    | some (.ptr id 0) => match nth h id with
      | some (.sit s p) => bif Nat.blt p s.length then some (.set (.tup [.bool true, .int .i64 (p : Int), .int .i32 ((runeAt s p).1 : Int)]) (setNth h id (.sit s (p + (runeAt s p).2)))) else none
      | _ => none
    | _ => none
  | .store t p x => stoM Tb fr h t p x
  | .call { callee := .builtin .append, args := args, argTypes := ts } => match args.toList, ts.toList with
    | [x, y], [t, u] => appM Tb fr h t u x y
    | _, _ => none
  | .call { callee := .builtin .copy, args := args, argTypes := ts } => match args.toList, ts.toList with
    | [x, y], [t, _] => cpyM Tb fr h t x y
    | _, _ => none
  | .call { callee := .builtin .clear, args := args, argTypes := ts } => match args.toList, ts.toList with
    | [x], [t] => clrM Tb fr h t x
    | _, _ => none
  | .call { callee := .builtin .unsafeString, args := args, argTypes := ts } => match args.toList, ts.toList with
    | [x, y], [t, _] => strM Tb fr h t x y
    | _, _ => none
  | .call c => match calleeOf fr c with
    | some (f, [.int .i64 n]) => match X f with
      | some (.noZero t) => match Tb t with
        | some ti => match ti.uk with
          | .slc e => match Tb e with
            | some ei => bif Nat.beq ei.size 1 then (bif leI 0 n then (bif leI n 281474976710656 then some (.grow (.slc h.length 0 n.toNat (.opn 0 0)) (.cells [] e true true)) else none) else none) else none
            | none => none
          | _ => none
        | none => none
      | _ => none
    | _ => none
  | _ => none

def MRes.Ok (P : Program) (G : Nat → Nat → Option AV) (o : Oper) (fr : Frame) (h : Heap) : MRes → Prop
  | .grow v g => StepTo P G o fr h v (h ++ [g])
  | .set v h' => StepTo P G o fr h v h'
  | .store h' => StoreTo P G o fr h h'
end Go.Fm
