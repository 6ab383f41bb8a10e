/- FM, a program logic over the given model with abstract values and an abstract heap: general lemmas. No statement is closed in this text. -/
import Derived.Test.YtcimapbdkmdcpaaGreatDoorFmS
import Derived.Lib.UnsafeStr
import Derived.Lib.Builder
import Derived.Lib.MakeNoZero
import Derived.Room.MakeNoZero
set_option linter.unusedVariables false
set_option linter.unusedSimpArgs false
namespace Go.Fm
open Go

def isP : AV → Bool
  | .ptr _ _ => true
  | .nilp => true
  | _ => false

section
variable {P : Program} {Tb : TypeId → Option TInfo} {G : Nat → Nat → Option AV} {μ κ : Nat → Nat} {h : Heap} {N : Nat} {fr : Frame} {a : Act} {w : World}

theorem liesAt_self {u : TypeId} (hc : P.cellsOf u ≠ 0) (count n : Nat) (hn : n ≤ count) : liesAt P P.depth u count 0 u n = true := by
  have hd : P.depth = (2 * (P.types.size + Made.depth) + 1) + 1 := rfl
  rw [hd]
  simp only [liesAt, Bool.or_eq_true]
  left
  rw [hd]
  simp [rowAt, hc, hn, sameLayout]

theorem shape_of {b : Nat} {c : Array Value} {ty : TypeId} {fz : Nat × Nat} (hb : w.heap[b]? = some (.cells c ty fz)) : w.shape? b = some (ty, c.size) := by
  simp [World.shape?, hb]

/-- A pointer to a variable as an unsafe.Pointer. -/
theorem st_toUnsafe (hT : TbOk P Tb) {o : Oper} {s d t : TypeId} {x : Operand} {si di ti : TInfo} {id off : Nat} {cs : List AV} {ty : TypeId} {opn wr : Bool} (ho : o.op = .convert s d x) (hs : Tb s = some si) (hsk : si.uk = .ptr t) (ht : Tb t = some ti) (hsz : Nat.blt 0 ti.size = true)
    (hd : Tb d = some di) (hdk : di.uk = .unsf) (hx : ev fr x = some (.ptr id off)) (hob : nth h id = some (.cells cs ty opn wr)) (hoff : Nat.blt off cs.length = true) : StepTo P G o fr h (.ptr id off) h := by
  intro N μ κ a w hh hf
  obtain ⟨tis, ds, hts⟩ := hT s si hs
  obtain ⟨tid, dd, htd⟩ := hT d di hd
  obtain ⟨tit, dt, htt⟩ := hT t ti ht
  have u1 := hts.uk
  have u2 := htd.uk
  simp only [hsk, ukRel] at u1
  simp only [hdk, ukRel] at u2
  subst u1 u2
  have e1 := ev_sound hf hx
  rw [nth_eq] at hob
  obtain ⟨bo, hb, c, fz, extra, rfl, e2, e3, e4, e5⟩ := hh.obj id _ hob rfl
  have hcl : cs.length ≤ c.size := by rw [← Array.length_toList, e2]; simp [concs_length]
  have hoff : off < cs.length := by simpa [Nat.blt_eq] using hoff
  have hsz : 0 < ti.size := by simpa [Nat.blt_eq] using hsz
  have R := Go.Lib.run_to_unsafe (P := P) w (src := s) (dst := d) (⟨μ id, off, none⟩ : Addr) hts.und htd.und htt.info (by rw [htt.size]; omega) (shape_of hb) (by simp only; omega)
  refine ⟨μ, κ, w, ?_, hh, e1.2, Ext.refl _ _ _ _⟩
  simp only [execOp, ho, e1.1, conc, Sem.run_bind, R, Result.andThen_ok]; rfl

/-- .. and back. -/
theorem st_fromUnsafe (hT : TbOk P Tb) {o : Oper} {s d u : TypeId} {x : Operand} {si di ui : TInfo} {id : Nat} {cs : List AV} {wr : Bool} (ho : o.op = .convert s d x) (hs : Tb s = some si) (hsk : si.uk = .unsf) (hu : Tb u = some ui) (hsz : Nat.blt 0 ui.size = true)
    (hd : Tb d = some di) (hdk : di.uk = .ptr u) (hx : ev fr x = some (.ptr id 0)) (hob : nth h id = some (.cells cs u false wr)) (hl : Nat.beq cs.length ui.size = true) : StepTo P G o fr h (.ptr id 0) h := by
  intro N μ κ a w hh hf
  obtain ⟨tis, ds, hts⟩ := hT s si hs
  obtain ⟨tid, dd, htd⟩ := hT d di hd
  obtain ⟨tiu, du, htu⟩ := hT u ui hu
  have u1 := hts.uk
  have u2 := htd.uk
  simp only [hsk, ukRel] at u1
  simp only [hdk, ukRel] at u2
  subst u1 u2
  have e1 := ev_sound hf hx
  rw [nth_eq] at hob
  obtain ⟨bo, hb, c, fz, extra, rfl, e2, e3, e4, e5⟩ := hh.obj id _ hob rfl
  have hl := Nat.eq_of_beq_eq_true hl
  have hsz : 0 < ui.size := by simpa [Nat.blt_eq] using hsz
  have hcl : c.size = ui.size := by rw [← Array.length_toList, e2, e3 rfl]; simp [concs_length, hl]
  have hcu : P.cellsOf u = ui.size := htu.cells
  have R := Go.Lib.run_from_unsafe (P := P) w (src := s) (dst := d) (⟨μ id, 0, none⟩ : Addr) hts.und htd.und htu.info (shape_of hb) (liesAt_self (by rw [hcu]; omega) _ 1 (by rw [hcl, hcu, Nat.div_self hsz]; omega))
  refine ⟨μ, κ, w, ?_, hh, e1.2, Ext.refl _ _ _ _⟩
  simp only [execOp, ho, e1.1, conc, Sem.run_bind, R, Result.andThen_ok]; rfl

/-- A pointer held against itself. -/
theorem st_eqPtr (hT : TbOk P Tb) {o : Oper} {op : BinOp} {t u e : TypeId} {x y : Operand} {i ei : TInfo} {id off : Nat} {c : Bool} (ho : o.op = .binOp op t x y u) (hi : Tb t = some i) (hk : i.uk = .ptr e) (he : Tb e = some ei) (hsz : Nat.blt 0 ei.size = true) (hx : ev fr x = some (.ptr id off)) (hy : ev fr y = some (.ptr id off)) (hc : negB op true = some c) : StepTo P G o fr h (.bool c) h := by
  intro N μ κ a w hh hf
  obtain ⟨ti, d, ht⟩ := hT t i hi
  obtain ⟨te, de, hte⟩ := hT e ei he
  have hu := ht.uk
  simp only [hk, ukRel] at hu
  subst hu
  have e1 := ev_sound hf hx
  have e2 := ev_sound hf hy
  have hsz : 0 < ei.size := by simpa [Nat.blt_eq] using hsz
  refine ⟨μ, κ, w, ?_, hh, trivial, Ext.refl _ _ _ _⟩
  have R : (Op.equal t (.pointer (some ⟨μ id, off, none⟩)) (.pointer (some ⟨μ id, off, none⟩))).run P w = .ok true w := by
    have hne : ei.size ≠ 0 := by omega
    have hd : ∀ dd : Nat, (Op.equalIn (dd + 1) t (.pointer (some ⟨μ id, off, none⟩)) (.pointer (some ⟨μ id, off, none⟩))).run P w = .ok true w := fun dd => by
      simp [Op.equalIn, ht.run_underlying, hte.run_size, hne, run_sameAddr_same]
    exact hd 9999
  have g : eqGuard op t x y (.pointer (some ⟨μ id, off, none⟩)) (.pointer (some ⟨μ id, off, none⟩)) = pure () := by cases op <;> rfl
  cases op <;> simp [negB] at hc <;> subst hc
  · simp only [execOp, ho, e1.1, e2.1, conc, g, Sem.run_bind, Sem.run_pure, Result.andThen_ok, binOp, R]
  · simp only [execOp, ho, e1.1, e2.1, conc, g, Sem.run_bind, Sem.run_pure, Result.andThen_ok, binOp, R]; rfl

/-- The first element's address. -/
theorem st_sliceData {o : Oper} {x : Operand} {ts : Array TypeId} {id off len c : Nat} (ho : o.op = .call { callee := .builtin .unsafeSliceData, args := #[x], argTypes := ts }) (hx : ev fr x = some (.slc id off len (.exact c))) (hc : Nat.blt 0 c = true) : StepTo P G o fr h (.ptr id off) h := by
  intro N μ κ a w hh hf
  have e1 := ev_sound hf hx
  have hc : 0 < c := by simpa [Nat.blt_eq] using hc
  refine ⟨μ, κ, w, ?_, hh, e1.2, Ext.refl _ _ _ _⟩
  have R := Go.Lib.run_unsafeSliceData_row (P := P) w ts o.type ⟨μ id, off, none⟩ len c (by omega)
  simp [execOp, ho, resolve, invoke, builtin, e1.1, conc, R]
theorem st_sliceDataN {o : Oper} {x : Operand} {ts : Array TypeId} (ho : o.op = .call { callee := .builtin .unsafeSliceData, args := #[x], argTypes := ts }) (hx : ev fr x = some .nils) : StepTo P G o fr h .nilp h := by
  intro N μ κ a w hh hf
  have e1 := ev_sound hf hx
  refine ⟨μ, κ, w, ?_, hh, e1.2, Ext.refl _ _ _ _⟩
  have R := Go.Lib.run_unsafeSliceData_nil (P := P) w ts o.type 0 0
  simp [execOp, ho, resolve, invoke, builtin, e1.1, conc, R]
theorem st_sliceDataO (hT : TbOk P Tb) {o : Oper} {x : Operand} {ts : Array TypeId} {e : TypeId} {ei : TInfo} {id len : Nat} {cs : List AV} {wr : Bool} (ho : o.op = .call { callee := .builtin .unsafeSliceData, args := #[x], argTypes := ts }) (hx : ev fr x = some (.slc id 0 len (.opn 0 0))) (hl : 0 < len)
    (hob : nth h id = some (.cells cs e true wr)) (hei : Tb e = some ei) (hes : Nat.blt 0 ei.size = true) (hlen : len * ei.size ≤ cs.length) : StepTo P G o fr h (.ptr id 0) h := by
  intro N μ κ a w hh hf
  have e1 := ev_sound hf hx
  have hcap := opn_cap hh hT hob hei hes hlen
  refine ⟨μ, κ, w, ?_, hh, e1.2, Ext.refl _ _ _ _⟩
  have R := Go.Lib.run_unsafeSliceData_row (P := P) w ts o.type ⟨μ id, 0, none⟩ len (κ id) (by omega)
  simp [execOp, ho, resolve, invoke, builtin, e1.1, conc, R]

/-- The text that bytes are: they may not be written any more. -/
theorem st_unsafeStr (hT : TbOk P Tb) {o : Oper} {x y : Operand} {t u e : TypeId} {ti ei : TInfo} {id : Nat} {cs : List AV} {opn : Bool} {l : List UInt8} {n : Int} (ho : o.op = .call { callee := .builtin .unsafeString, args := #[x, y], argTypes := #[t, u] })
    (hx : ev fr x = some (.ptr id 0)) (hy : ev fr y = some (.int .i64 n)) (hn : n = (l.length : Int)) (ht : Tb t = some ti) (htk : ti.uk = .ptr e) (hei : Tb e = some ei) (hes : Nat.beq ei.size 1 = true) (hob : nth h id = some (.cells cs e opn true)) (hcs : cs.take l.length = l.map byteAV) (h0 : 0 < l.length) (h63 : l.length ≤ 9223372036854775807) :
    StepTo P G o fr h (.str l) (setNth h id (.cells cs e opn false)) := by
  intro N μ κ a w hh hf
  subst hn
  obtain ⟨tit, dt, htt⟩ := hT t ti ht
  obtain ⟨te, de, hte⟩ := hT e ei hei
  have hu := htt.uk
  simp only [htk, ukRel] at hu
  subst hu
  have e1 := ev_sound hf hx
  have e2 := ev_sound hf hy
  rw [nth_eq] at hob
  obtain ⟨bo, hb, hr⟩ := hh.obj id _ hob rfl
  have hr2 := hr
  obtain ⟨c, fz, extra, rfl, q2, q3, q4, q5⟩ := hr2
  have hc1 : P.cellsOf e = 1 := by rw [hte.cells]; exact Nat.eq_of_beq_eq_true hes
  have hcl : cs.length ≤ c.size := by rw [← Array.length_toList, q2]; simp [concs_length]
  have hll : l.length ≤ cs.length := by
    have := congrArg List.length hcs
    simp at this; omega
  have hcell : ∀ j x, l[j]? = some x → w.cell? ((⟨μ id, 0, none⟩ : Addr).add j) = some (.int .u8 x.toNat) := by
    intro j b hj
    have hjl := lt_of_get hj
    rw [Addr.add_lit, Nat.zero_add]
    have : cs[j]? = some (byteAV b) := by
      have h1 : (cs.take l.length)[j]? = cs[j]? := by rw [List.getElem?_take, if_pos hjl]
      rw [← h1, hcs, List.getElem?_map, hj]; rfl
    exact obj_cells hr hb j _ this
  have R := Go.Lib.run_unsafeString_row (P := P) w t u o.type e htt.und hc1 (μ id) c.size (shape_of hb) l (by intro e; subst e; simp at h0) (by omega) h63 hcell
  have hne : l.length ≠ 0 := by omega
  have hfzh : ∀ b, (w.freeze ⟨μ id, 0, none⟩ l.length).heap[b]? = if b = μ id then some (.cells c e (if fz.1 == fz.2 then (0, 0 + l.length) else (min fz.1 0, max fz.2 (0 + l.length)))) else w.heap[b]? := by
    intro b
    unfold World.freeze
    rw [if_neg hne]
    simp only [Array.getElem?_modify]
    by_cases eb : μ id = b
    · subst eb; simp [hb]
    · rw [if_neg eb, if_neg (Ne.symm eb)]
  rw [setNth_eq]
  refine ⟨μ, κ, w.freeze ⟨μ id, 0, none⟩ l.length, ?_, ?_, trivial, ?_⟩
  · simp only [execOp, ho, resolve, invoke, builtin, Sem.run_bind]
    simp [e1.1, e2.1, conc, R]
  · refine hh.update hob rfl (fun b hbn => by rw [hfzh, if_neg hbn]) (bo := .cells c e (if fz.1 == fz.2 then (0, 0 + l.length) else (min fz.1 0, max fz.2 (0 + l.length)))) (by rw [hfzh, if_pos rfl]) ⟨c, _, extra, rfl, q2, q3, q4, by simp⟩ (show AVs.le h.length cs from hh.le id _ hob)
  · refine Ext.update hob rfl (fun b hbn => by rw [hfzh, if_neg hbn]) ?_ ?_ ?_ ?_ <;> (unfold World.freeze; rw [if_neg hne]; try simp)
theorem st_unsafeStr0 {o : Oper} {x y : Operand} {t u : TypeId} {v : AV} (ho : o.op = .call { callee := .builtin .unsafeString, args := #[x, y], argTypes := #[t, u] })
    (hx : ev fr x = some v) (hv : isP v = true) (hy : ev fr y = some (.int .i64 0)) : StepTo P G o fr h (.str []) h := by
  intro N μ κ a w hh hf
  have e1 := ev_sound hf hx
  have e2 := ev_sound hf hy
  refine ⟨μ, κ, w, ?_, hh, trivial, Ext.refl _ _ _ _⟩
  have : ∃ p, conc μ κ v = .pointer p := by
    cases v with
    | ptr id off => exact ⟨_, rfl⟩
    | nilp => exact ⟨_, rfl⟩
    | _ => simp [isP] at hv
  obtain ⟨p, hp⟩ := this
  have R := Go.Lib.run_unsafeString_none (P := P) w t u o.type p
  simp only [execOp, ho, resolve, invoke, builtin, Sem.run_bind]
  simp [e1.1, e2.1, hp, conc, R]
  rfl

/-- Bytes of whatever values. -/
theorem st_noZero (hT : TbOk P Tb) {o : Oper} {c : Call} {f : FuncId} {n : Int} {ps : Array TypeId} {t e : TypeId} {ti ei : TInfo} (ho : o.op = .call c) (hc : calleeOf fr c = some (f, [.int .i64 n])) (hk : ExtOk P f (Extern.BytealgMakeNoZero.makeNoZero ps #[t])) (ht : Tb t = some ti) (htk : ti.uk = .slc e) (hei : Tb e = some ei) (hes : Nat.beq ei.size 1 = true)
    (hn : 0 ≤ n ∧ n ≤ 281474976710656) : StepTo P G o fr h (.slc h.length 0 n.toNat (.opn 0 0)) (h ++ [.cells [] e true true]) := by
  intro N μ κ a w hh hf
  obtain ⟨tit, dt, htt⟩ := hT t ti ht
  obtain ⟨te, de, hte⟩ := hT e ei hei
  have hu := htt.uk
  simp only [htk, ukRel] at hu
  subst hu
  have hc1 : P.cellsOf e = 1 := by rw [hte.cells]; exact Nat.eq_of_beq_eq_true hes
  obtain ⟨cs, R, _, _, _⟩ := Go.Lib.run_makeNoZero_cap (P := P) w ps t e htt.und n.toNat (by omega)
  have hnn : ((n.toNat : Nat) : Int) = n := by omega
  rw [hnn] at R
  have nw := hh.newOpen (w' := w.drew.drew.alloc (.cells cs e)) (cs := []) e trivial (c := cs) (extra := cs.toList) cs.size rfl (by simp [concs]) (by rw [hc1]; omega) rfl rfl rfl
  refine ⟨_, _, _, ?_, nw.1, by simp [AV.le], nw.2⟩
  unfold calleeOf at hc
  split at hc
  · rename_i g hg
    split at hc
    · rename_i fid first captured as' hgv hasv
      simp at hc; obtain ⟨rfl, has⟩ := hc
      have e1 := ev_sound hf hgv
      have e2 := evs_sound hf hasv
      obtain ⟨fn, q1, q2, q3, q4, q5⟩ := hk
      have e3 : c.args.map a.eval = (concs μ κ as').toArray := by apply Array.ext'; simp [e2.1]
      have R2 := run_callFunc_extern (P := P) q1 q2 q3 q4 q5 (concs μ κ (first ++ (as' ++ captured))).toArray w
      rw [has] at R2
      have hone : (concs μ κ [AV.int .i64 n]).toArray = #[.int .i64 n] := rfl
      rw [hone, R] at R2
      simp only [Result.andThen_ok] at R2
      simp only [execOp, ho, resolve, hg, e1.1, e3, conc, Deferred.ofValue, invoke, Sem.run_bind, Sem.run_pure, Result.andThen_ok]
      have hcc : (concs μ κ first).toArray ++ (concs μ κ as').toArray ++ (concs μ κ captured).toArray = #[Value.int .i64 n] := by
        rw [← hone, ← has]; simp [concs_append]
      rw [hcc, R2]
      simp [upd_same]
    · simp at hc
  · simp at hc

theorem st_slice_opn0 (hT : TbOk P Tb) {o : Oper} {t e : TypeId} {x : Operand} {lo hi : Option Operand} {i ei : TInfo} {id len : Nat} (ho : o.op = .slice t x lo hi none) (hti : Tb t = some i) (hk : i.uk = .slc e) (hei : Tb e = some ei)
    (hx : ev fr x = some (.slc id 0 len (.opn 0 0))) (hl : boundOf fr lo 0 = some 0) (hu : boundOf fr hi len = some 0) :
    StepTo P G o fr h (.slc id 0 0 (.opn 0 0)) h := by
  intro N μ κ a w hh hf
  obtain ⟨ti, d, ht⟩ := hT t i hti
  obtain ⟨_, de, hte⟩ := hT e ei hei
  have huk := ht.uk
  simp only [hk, ukRel] at huk
  subst huk
  have e1 := ev_sound hf hx
  refine ⟨μ, κ, w, ?_, hh, e1.2, Ext.refl _ _ _ _⟩
  have br := bounds_run (P := P) (w := w) (mx := none) (m := (κ id : Int)) (cap := κ id) true hf hl hu rfl (Int.le_refl 0) (Int.le_refl 0) (by omega) (Int.le_refl _) (fun _ => rfl)
  have key : (Instr.sliceAt t (.slice (some ⟨μ id, 0, none⟩) len (κ id)) (lo.map a.eval) (hi.map a.eval) none).run P w = .ok (.slice (some ⟨μ id, 0, none⟩) 0 (κ id)) w := by
    have br' : (Instr.sliceBounds true len (κ id) (lo.map a.eval) (hi.map a.eval) none).run P w = .ok (0, 0, κ id) w := by simpa using br
    simp only [Instr.sliceAt, Sem.run_bind, ht.run_underlying, Result.andThen_ok, Instr.slice, br', hte.run_size, Sem.run_pure]
    simp [Addr.add_lit]
  simp only [execOp, ho, e1.1, Sem.run_bind, conc, Option.map_none, ite_self, Nat.sub_zero]
  rw [key]; rfl

/-- An element's address, in a slice whose place memory tells. -/
theorem st_ixa_at (hT : TbOk P Tb) {o : Oper} {t e : TypeId} {x y : Operand} {i ei : TInfo} {id off len : Nat} {cap : ACap} {k : IntKind} {n : Int} (ho : o.op = .indexAddr t x y) (hi : Tb t = some i) (hk : i.uk = .slc e) (hei : Tb e = some ei)
    (hx : ev fr x = some (.slc id off len cap)) (hy : ev fr y = some (.int k n)) (hc : atOk Tb h id off len ei.size cap = true) (h0 : 0 ≤ n ∧ n < len) : StepTo P G o fr h (.ptr id (off + n.toNat * ei.size)) h := by
  intro N μ κ a w hh hf
  obtain ⟨ti, d, ht⟩ := hT t i hi
  obtain ⟨_, de, hte⟩ := hT e ei hei
  have hu := ht.uk
  simp only [hk, ukRel] at hu
  subst hu
  have e1 := ev_sound hf hx
  have e2 := (ev_sound hf hy).1
  obtain ⟨off', c, hcc, hoff⟩ := atOk_conc hT hh hc
  have hof := hoff (by omega)
  subst hof
  refine ⟨μ, κ, w, ?_, hh, e1.2, Ext.refl _ _ _ _⟩
  have key : (Instr.indexAt t (.slice (some ⟨μ id, off', none⟩) len c) (.int k n)).run P w = .ok (.pointer (some ⟨μ id, off' + n.toNat * ei.size, none⟩)) w := by
    have hn : (0 ≤ n ∧ n < (len : Int)) := ⟨h0.1, by omega⟩
    simp only [Instr.indexAt, asIntOf, Sem.run_bind, Sem.run_pure, Result.andThen_ok, ht.run_underlying, hn, and_self, if_true, hte.run_size, Addr.add_lit]
  simp only [execOp, ho, e1.1, e2, hcc, Sem.run_bind]
  rw [show conc μ κ (.int k n) = .int k n from rfl, key]; rfl

/-- A part of a part of an open object. -/
theorem st_slice_opnG (hT : TbOk P Tb) {o : Oper} {t e : TypeId} {x : Operand} {lo hi : Option Operand} {i ei : TInfo} {id off len eo prev : Nat} {l u : Int} {cs : List AV} {wr : Bool} (ho : o.op = .slice t x lo hi none) (hti : Tb t = some i) (hk : i.uk = .slc e) (hei : Tb e = some ei)
    (hx : ev fr x = some (.slc id off len (.opn eo prev))) (hob : nth h id = some (.cells cs e true wr)) (hes : Nat.blt 0 ei.size = true) (hofs : off = eo * ei.size) (hlen : off + len * ei.size ≤ cs.length) (hl : boundOf fr lo 0 = some l) (hu : boundOf fr hi len = some u) (hb : 0 < l ∧ l ≤ u ∧ u ≤ len) :
    StepTo P G o fr h (.slc id (off + l.toNat * ei.size) (u.toNat - l.toNat) (.opn (eo + l.toNat) off)) h := by
  intro N μ κ a w hh hf
  obtain ⟨ti, d, ht⟩ := hT t i hti
  obtain ⟨_, de, hte⟩ := hT e ei hei
  have huk := ht.uk
  simp only [hk, ukRel] at huk
  subst huk
  have e1 := ev_sound hf hx
  refine ⟨μ, κ, w, ?_, hh, e1.2, Ext.refl _ _ _ _⟩
  have hcap : eo + len ≤ κ id := opn_cap hh hT hob hei hes (by rw [Nat.add_mul]; omega)
  have hne : κ id ≠ eo := by omega
  have br := bounds_run (P := P) (w := w) (mx := none) (m := ((κ id - eo : Nat) : Int)) (cap := κ id - eo) true hf hl hu rfl (by omega) hb.2.1 (by omega) (Int.le_refl _) (fun _ => rfl)
  have key : (Instr.sliceAt t (.slice (some ⟨μ id, off, none⟩) len (κ id - eo)) (lo.map a.eval) (hi.map a.eval) none).run P w = .ok (.slice (some ⟨μ id, if κ id = eo + l.toNat then off else off + l.toNat * ei.size, none⟩) (u.toNat - l.toNat) (κ id - (eo + l.toNat))) w := by
    have br' : (Instr.sliceBounds true len (κ id - eo) (lo.map a.eval) (hi.map a.eval) none).run P w = .ok (l.toNat, u.toNat, κ id - eo) w := by simpa using br
    simp only [Instr.sliceAt, Sem.run_bind, ht.run_underlying, Result.andThen_ok, Instr.slice, br', hte.run_size, Sem.run_pure]
    by_cases q : κ id = eo + l.toNat
    · rw [if_pos q, if_pos (by omega)]; simp; omega
    · rw [if_neg q, if_neg (by omega)]; simp [Addr.add_lit]; omega
  simp only [execOp, ho, e1.1, Sem.run_bind, conc, Option.map_none, hne, if_false]
  rw [key]; rfl

/-- An append to an open object that has room for sure. -/
theorem st_append_room (hT : TbOk P Tb) {o : Oper} {x y : Operand} {t u e : TypeId} {ei : TInfo} {z vy : AV} {id len n : Nat} {cs cs' xs : List AV} (ho : o.op = .call { callee := .builtin .append, args := #[x, y], argTypes := #[t, u] }) (A : AppTy Tb t u e ei z)
    (hx : ev fr x = some (.slc id 0 len (.opn 0 0))) (hy : ev fr y = some vy) (hob : nth h id = some (.cells cs e true true)) (hes : Nat.blt 0 ei.size = true) (hsrc : srcA Tb h ei.size vy = some (n, xs)) (hn : (len + n) * ei.size ≤ cs.length) (hov : over cs (len * ei.size) xs = some cs') (h1 : allOne xs = true) :
    StepTo P G o fr h (.slc id 0 (len + n) (.opn 0 0)) (setNth h id (.cells cs' e true true)) := by
  intro N μ κ a w hh hf
  obtain ⟨it, hit, hik⟩ := A.ht
  obtain ⟨iu, hiu, hsu⟩ := A.hu
  obtain ⟨_, dt, ht⟩ := hT t it hit
  obtain ⟨_, du, hu⟩ := hT u iu hiu
  obtain ⟨te, de, hte⟩ := hT e ei A.he
  have ut := ht.uk
  simp only [hik, ukRel] at ut
  subst ut
  have hcap := opn_cap hh hT hob A.he hes hn
  have e1 := ev_sound hf hx
  have s2 := srcA_sound hT hh hsrc (ev_sound hf hy).2
  rw [nth_eq] at hob
  obtain ⟨w', r, hh', hx'⟩ := store_obj hh hob hov h1 s2.2.2
  rw [setNth_eq]
  refine ⟨μ, κ, w', ?_, hh', by simpa [AV.le] using e1.2, hx'⟩
  have s3 := s2.1
  rw [← hte.size] at s3 r
  have q := run_app_fit (P := P) (w := w) (ty := o.type) ht.und hte.info hu.und (isSrc_desc hu.uk hsu) s3 (base := some ⟨μ id, 0, none⟩) (sLen := len) (sCap := κ id) hcap w' (by simpa [Addr.add_lit] using r)
  have := exec_append (P := P) (w := w) (o := o) ho hf hx hy (v := .slice (some ⟨μ id, 0, none⟩) (len + n) (κ id)) (by simpa [conc] using q)
  rw [this]
  simp [conc]
end
end Go.Fm
