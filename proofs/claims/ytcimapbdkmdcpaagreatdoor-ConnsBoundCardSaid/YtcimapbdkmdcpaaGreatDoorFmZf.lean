/- FM, a program logic over the given model with abstract values and an abstract heap: general lemmas. No statement is closed in this text. -/
import Derived.Test.YtcimapbdkmdcpaaGreatDoorFmZe
set_option linter.unusedVariables false
set_option linter.unusedSimpArgs false
namespace Go.Fm
open Go

/-! Writing over a part. -/
theorem over_eq : ∀ {cs vs : List AV} {off : Nat}, off + vs.length ≤ cs.length → over cs off vs = some (cs.take off ++ vs ++ cs.drop (off + vs.length))
  | cs, [], 0, _ => by cases cs <;> simp [over]
  | [], v :: vs, 0, h => by simp at h
  | c :: cs, v :: vs, 0, h => by
    have := over_eq (cs := cs) (vs := vs) (off := 0) (by simpa using h)
    simp only [over, this]
    simp
  | [], vs, n + 1, h => by simp at h
  | c :: cs, vs, n + 1, h => by
    have := over_eq (cs := cs) (vs := vs) (off := n) (by simp at h; omega)
    simp only [over, this]
    simp [show n + 1 + vs.length = n + vs.length + 1 by omega]
section
variable {α : Type} {k : Nat} (E : Enc α k)
theorem Enc.over_of {l m : List α} {i off : Nat} (ho : off = i * k) (h : i + m.length ≤ l.length) : over (E.of l) off (E.of m) = some (E.of (l.take i ++ m ++ l.drop (i + m.length))) := by
  subst ho
  have hm : (i + m.length) * k ≤ l.length * k := Nat.mul_le_mul_right k h
  rw [over_eq (by rw [E.of_length, E.of_length, ← Nat.add_mul]; exact hm), E.of_append, E.of_append, E.of_take, E.of_length, ← Nat.add_mul, E.of_drop]
theorem Enc.src {Tb : TypeId → Option TInfo} {h : Heap} {id off len : Nat} {cap : ACap} {l : List α} {ty : TypeId} {opn wr : Bool} {i : Nat} (hc : atOk Tb h id off len k cap = true) (hob : nth h id = some (.cells (E.of l) ty opn wr)) (ho : off = i * k) (hl : i + len ≤ l.length) :
    srcA Tb h k (.slc id off len cap) = some (len, E.of ((l.drop i).take len)) := by
  subst ho
  unfold srcA
  simp only [hc, hob]
  have : len * k ≤ (E.of (l.drop i)).length := by rw [E.of_length, List.length_drop]; exact Nat.mul_le_mul_right k (by omega)
  simp only [E.of_drop, takeN_of_le this, E.of_take]
theorem Enc.repl_of {n : Nat} {cs : List AV} {z : α} (hz : E.cells z = cs) : repl n cs = E.of (List.replicate n z) := by
  induction n with
  | zero => rfl
  | succ n ih => rw [List.replicate_succ, E.of_cons, ← ih, hz]; rfl
/-- Each is one cell. -/
def Enc.One : Prop := ∀ a, allOne (E.cells a) = true
theorem allOne_app : ∀ {l m : List AV}, allOne l = true → allOne m = true → allOne (l ++ m) = true
  | [], m, _, h => h
  | v :: t, m, h, h2 => by
    simp only [allOne] at h
    cases e : v.one with
    | false => simp [e] at h
    | true => simp only [e, cond_true] at h; simp only [List.cons_append, allOne, e, cond_true]; exact allOne_app h h2
theorem Enc.One.of {E : Enc α k} (h : E.One) (l : List α) : allOne (E.of l) = true := by
  induction l with
  | nil => rfl
  | cons a t ih => rw [E.of_cons]; exact allOne_app (h a) ih
/-- A slice of a part of an open one. -/
theorem atOk_opn {Tb : TypeId → Option TInfo} {h : Heap} {id off len es eo prev : Nat} {cs : List AV} {e : TypeId} {ei : TInfo} {wr : Bool} (hob : nth h id = some (.cells cs e true wr)) (hei : Tb e = some ei) (hs : ei.size = es) (ho : off = eo * es) (hl : 0 < len → 0 < es ∧ off + len * es ≤ cs.length) : atOk Tb h id off len es (.opn eo prev) = true := by
  unfold atOk
  split
  · rfl
  · rename_i heq; simp at heq; obtain ⟨rfl, rfl⟩ := heq; simp at ho; subst ho; rfl
  · rename_i eo' prev' _ heq
    simp at heq; obtain ⟨rfl, rfl⟩ := heq
    cases hb : Nat.beq len 0 with
    | true => rfl
    | false =>
      have h0 : 0 < len := by
        rcases Nat.eq_zero_or_pos len with q | q
        · subst q; simp at hb
        · exact q
      obtain ⟨h1, h2⟩ := hl h0
      have h3 : 0 < len * es := Nat.mul_pos h0 h1
      simp only [cond_false, hob, hei, hs]
      rw [show Nat.beq es es = true from Nat.beq_refl es, ho, show Nat.beq (eo * es) (eo * es) = true from Nat.beq_refl _]
      simp only [cond_true]
      rw [show Nat.blt (eo * es) (eo * es + len * es) = true by simp [Nat.blt_eq]; omega]
      simp only [cond_true]
      rw [ho] at h2
      exact Nat.ble_eq_true_of_le h2
end

/-! What stands behind an open object's known cells is forgotten. -/
def OWeak : AObj → AObj → Prop
  | .cells cs ty opn wr, .cells cs2 ty2 opn2 wr2 => ty = ty2 ∧ opn = opn2 ∧ (wr2 = true → wr = true) ∧ (cs2 = cs ∨ opn = true ∧ ∃ ds, cs = cs2 ++ ds)
  | _, .dead => True
  | a, b => a = b
def HWeak : Heap → Heap → Prop
  | [], [] => True
  | a :: s, b :: t => OWeak a b ∧ HWeak s t
  | _, _ => False
theorem HWeak.len : ∀ {s t : Heap}, HWeak s t → t.length = s.length
  | [], [], _ => rfl
  | a :: s, b :: t, h => by simp [HWeak.len h.2]
  | [], _ :: _, h => h.elim
  | _ :: _, [], h => h.elim
theorem HWeak.get : ∀ {s t : Heap}, HWeak s t → ∀ {i : Nat} {o : AObj}, t[i]? = some o → ∃ o', s[i]? = some o' ∧ OWeak o' o
  | [], [], _, i, o, h => by simp at h
  | a :: s, b :: t, hw, i, o, h => by
    cases i with
    | zero => simp at h; subst h; exact ⟨a, rfl, hw.1⟩
    | succ i => simpa using HWeak.get hw.2 (by simpa using h)
  | [], _ :: _, h, _, _, _ => h.elim
  | _ :: _, [], h, _, _, _ => h.elim

section
variable {P : Program} {G : Nat → Nat → Option AV} {μ κ : Nat → Nat} {h h2 : Heap} {w : World}
theorem OWeak.live {a b : AObj} (h : OWeak a b) (hb : b.live = true) : a.live = true := by
  cases a <;> cases b <;> simp_all [OWeak, AObj.live]
theorem OWeak.own {a b : AObj} (h : OWeak a b) (hb : b.own = true) : a.own = true := by
  cases a <;> cases b <;> simp_all [OWeak, AObj.own]
theorem OWeak.le {a b : AObj} {m : Nat} (h : OWeak a b) (ha : AObj.le m a) : AObj.le m b := by
  cases b with
  | dead => trivial
  | cells cs ty opn wr =>
    cases a with
    | cells cs' ty' opn' wr' =>
      obtain ⟨_, _, _, h4⟩ := h
      simp only [AObj.le] at *
      rw [AVs.le_iff] at *
      rcases h4 with rfl | ⟨_, ds, rfl⟩
      · exact ha
      · exact fun v hv => ha v (List.mem_append_left _ hv)
    | _ => simp [OWeak] at h
  | sit s p => cases a <;> simp [OWeak] at h; obtain ⟨rfl, rfl⟩ := h; exact ha
  | mapo es c => cases a <;> simp [OWeak] at h; obtain ⟨rfl, rfl⟩ := h; exact ha
theorem OWeak.rel {a b : AObj} {id : Nat} {bo : Obj} (h : OWeak a b) (ha : objRel P μ κ id a bo) : objRel P μ κ id b bo := by
  cases b with
  | dead => trivial
  | cells cs ty opn wr =>
    cases a with
    | cells cs' ty' opn' wr' =>
      obtain ⟨rfl, rfl, h3, h4⟩ := h
      obtain ⟨c, fz, extra, e1, e2, e3, e4, e5⟩ := ha
      rcases h4 with rfl | ⟨ho, ds, rfl⟩
      · exact ⟨c, fz, extra, e1, e2, e3, e4, fun q => e5 (h3 q)⟩
      · exact ⟨c, fz, concs μ κ ds ++ extra, e1, by rw [e2, concs_append, List.append_assoc], fun q => by rw [ho] at q; simp at q, e4, fun q => e5 (h3 q)⟩
    | _ => simp [OWeak] at h
  | sit s p => cases a <;> simp [OWeak] at h; obtain ⟨rfl, rfl⟩ := h; exact ha
  | mapo es c => cases a <;> simp [OWeak] at h; obtain ⟨rfl, rfl⟩ := h; exact ha
theorem HRel.weak (r : HRel P G μ κ h w) (hw : HWeak h h2) : HRel P G μ κ h2 w := by
  refine ⟨fun id o hi hl => ?_, fun i j oi oj hi hj hne ho hl => ?_, fun i o hi => ?_, r.glob, fun i o g gj gv hi ho hg => ?_⟩
  · obtain ⟨o', h', q⟩ := hw.get hi
    obtain ⟨b, hb, hr⟩ := r.obj id o' h' (q.live hl)
    exact ⟨b, hb, q.rel hr⟩
  · obtain ⟨a, ha, qa⟩ := hw.get hi
    obtain ⟨b, hb, qb⟩ := hw.get hj
    exact r.sep i j a b ha hb hne (qa.own ho) (qb.live hl)
  · obtain ⟨a, ha, qa⟩ := hw.get hi
    rw [hw.len]
    exact qa.le (r.le i a ha)
  · obtain ⟨a, ha, qa⟩ := hw.get hi
    exact r.apart i a g gj gv ha (qa.own ho) hg
theorem Ext.weak {μ₀ κ₀ : Nat → Nat} {h₀ : Heap} {w₀ : World} (x : Ext μ₀ κ₀ μ κ h₀ h w₀ w) (hw : HWeak h h2) : Ext μ₀ κ₀ μ κ h₀ h2 w₀ w := by
  refine ⟨x.os, x.tape, x.output, x.size, by rw [hw.len]; exact x.len, x.agree, x.keep, fun i o hi hl => ?_⟩
  obtain ⟨a, ha, qa⟩ := hw.get hi
  rcases x.fresh i a ha (qa.live hl) with ⟨h1, oj, h2, h3, h4⟩ | q
  · exact .inl ⟨h1, oj, h2, fun q => h3 (qa.own q), h4⟩
  · exact .inr q
theorem CallTo.weak {f : FuncId} {as : List AV} {R R' : AEnd → Heap → Prop} (hc : CallTo P G f as h R) (hr : ∀ e h', R e h' → ∃ h2, HWeak h' h2 ∧ R' e h2) : CallTo P G f as h R' := by
  intro μ κ w hh hl
  refine (hc μ κ w hh hl).mono ?_
  rintro e w' ⟨μ', κ', e', h', q, er, hh', hx⟩
  obtain ⟨h2, hw, q2⟩ := hr e' h' q
  exact ⟨μ', κ', e', h2, q2, by rw [hw.len]; exact er, hh'.weak hw, hx.weak hw⟩
theorem RetTo.weak {f : FuncId} {as : List AV} {v : AV} {h' : Heap} (hc : RetTo P G f as h v h') (hw : HWeak h' h2) : RetTo P G f as h v h2 :=
  CallTo.weak hc fun e q => by rintro ⟨rfl, rfl⟩; exact ⟨h2, hw, rfl, rfl⟩
/-- The first objects, weakened; what stands behind them is dropped. -/
def HFin : Heap → Heap → Prop
  | _, [] => True
  | a :: s, b :: t => OWeak a b ∧ HFin s t
  | [], _ :: _ => False
theorem OWeak.refl (a : AObj) : OWeak a a := by
  cases a <;> first | trivial | exact ⟨rfl, rfl, id, .inl rfl⟩ | rfl
theorem HWeak.refl : ∀ h : Heap, HWeak h h
  | [] => trivial
  | a :: t => ⟨OWeak.refl a, HWeak.refl t⟩
theorem HFin.weak : ∀ {q t : Heap}, HFin q t → ∃ g, HWeak q (t ++ g)
  | q, [], _ => ⟨q, HWeak.refl q⟩
  | a :: s, b :: t, h => by
    obtain ⟨g, hg⟩ := HFin.weak h.2
    exact ⟨g, h.1, hg⟩
  | [], _ :: _, h => h.elim
theorem HFin.refl : ∀ h : Heap, HFin h h
  | [] => trivial
  | a :: t => ⟨OWeak.refl a, HFin.refl t⟩
theorem HFin.refl2 : ∀ h g : Heap, HFin (h ++ g) h
  | [], g => by cases g <;> exact trivial
  | a :: t, g => ⟨OWeak.refl a, HFin.refl2 t g⟩
theorem PureF.on {f : FuncId} {as : List AV} {v : AV} (hp : PureF P G f as v) (h : Heap) : RetTo P G f as h v h := hp h
theorem RetTo.fin {f : FuncId} {as : List AV} {v : AV} (hc : CallTo P G f as h (fun e q => e = .ret v ∧ HFin q h2)) (hv : v.le h2.length) (hn : Nat.ble h.length h2.length = true) (hcl : HLe h2.length h2) : RetTo P G f as h v h2 :=
  RetTo.cut (CallTo.weak hc fun e q => by
    rintro ⟨rfl, hq⟩
    obtain ⟨g, hg⟩ := hq.weak
    exact ⟨_, hg, rfl, g, rfl⟩) hv (Nat.le_of_ble_eq_true hn) hcl
theorem OWeak.opn {cs cs2 ds : List AV} {ty : TypeId} {wr wr2 : Bool} (h : cs = cs2 ++ ds) (hw : wr2 = true → wr = true) : OWeak (.cells cs ty true wr) (.cells cs2 ty true wr2) := ⟨rfl, rfl, hw, .inr ⟨rfl, ds, h⟩⟩
theorem OWeak.same {cs cs2 : List AV} {ty : TypeId} {o wr wr2 : Bool} (h : cs2 = cs) (hw : wr2 = true → wr = true) : OWeak (.cells cs ty o wr) (.cells cs2 ty o wr2) := ⟨rfl, rfl, hw, .inl h⟩
theorem f_weak {N n : Nat} {c : Code} {Q : AExit → Frame → Heap → Prop} {fr : Frame} (hw : HWeak h h2) (k : WP P G N n c Q fr h2) : WP P G N n c Q fr h := by
  intro μ₀ κ₀ h₀ w₀ μ κ a w hn hx hh hf
  exact k μ₀ κ₀ h₀ w₀ μ κ a w hn (hx.weak hw) (hh.weak hw) (by rw [hw.len]; exact hf)
end

/-! An object that is none. -/
section
variable {P : Program} {G : Nat → Nat → Option AV} {μ κ : Nat → Nat} {h h2 : Heap} {w : World}
theorem dead_get {i : Nat} {o : AObj} (hi : (h ++ [AObj.dead])[i]? = some o) (hl : o.live = true) : h[i]? = some o := by
  rcases Nat.lt_or_ge i h.length with q | q
  · rw [List.getElem?_append_left q] at hi; exact hi
  · rw [List.getElem?_append_right q] at hi
    cases e : i - h.length with
    | zero => rw [e] at hi; simp at hi; subst hi; simp [AObj.live] at hl
    | succ n => rw [e] at hi; simp at hi
theorem HRel.pushDead (r : HRel P G μ κ h w) : HRel P G μ κ (h ++ [.dead]) w := by
  refine ⟨fun id o hi hl => r.obj id o (dead_get hi hl) hl, fun i j oi oj hi hj hne ho hl => r.sep i j oi oj (dead_get hi (AObj.live_of_own ho)) (dead_get hj hl) hne ho hl, fun i o hi => ?_, r.glob, fun i o g gj gv hi ho hg => r.apart i o g gj gv (dead_get hi (AObj.live_of_own ho)) ho hg⟩
  by_cases hl : o.live = true
  · exact AObj.le_mono (by simp) (r.le i o (dead_get hi hl))
  · cases o <;> simp [AObj.live] at hl; trivial
theorem Ext.pushDead {μ₀ κ₀ : Nat → Nat} {h₀ : Heap} {w₀ : World} (x : Ext μ₀ κ₀ μ κ h₀ h w₀ w) : Ext μ₀ κ₀ μ κ h₀ (h ++ [.dead]) w₀ w :=
  ⟨x.os, x.tape, x.output, x.size, by have := x.len; simp; omega, x.agree, x.keep, fun i o hi hl => x.fresh i o (dead_get hi hl) hl⟩
theorem f_dead {N n : Nat} {c : Code} {Q : AExit → Frame → Heap → Prop} {fr : Frame} (k : WP P G N n c Q fr (h ++ [.dead])) : WP P G N n c Q fr h := by
  intro μ₀ κ₀ h₀ w₀ μ κ a w hn hx hh hf
  exact k μ₀ κ₀ h₀ w₀ μ κ a w hn hx.pushDead hh.pushDead (hf.world (fun _ _ => ⟨rfl, rfl⟩) (by simp))
end

/-! What stands behind a piece of code is shown once. -/
section
variable {P : Program} {G : Nat → Nat → Option AV} {N n : Nat} {Q : AExit → Frame → Heap → Prop} {fr : Frame} {h : Heap}
def cutQ {α : Type} (n : Nat) (F : α → Frame) (H : α → Heap) (I : α → Prop) (Q : AExit → Frame → Heap → Prop) : AExit → Frame → Heap → Prop
  | .normal, fr, h => ∃ y, I y ∧ Vw n (F y) (H y) fr h
  | e, fr, h => Q e fr h
theorem f_cutV {α : Type} {a b : Code} (F : α → Frame) (H : α → Heap) (I : α → Prop) (ha : WP P G N n a (cutQ n F H I Q) fr h) (hb : ∀ y, I y → WP P G N n b Q (F y) (H y)) : WP P G N n (.seq a b) Q fr h := by
  refine f_seq (ha.mono fun e fr h q => ?_)
  cases e with
  | normal => obtain ⟨y, hy, v⟩ := q; exact f_vw v (hb y hy)
  | _ => exact q
/-- .. behind the region of that number. -/
theorem f_cutR {α : Type} (id : Nat) {all : Array Oper} {d : Bool} {b : Code} (F : α → Frame) (H : α → Heap) (I : α → Prop) (ha : WP P G N n (.region id all d) (cutQ n F H I Q) fr h) (hb : ∀ y, I y → WP P G N n b Q (F y) (H y)) : WP P G N n (.seq (.region id all d) b) Q fr h := f_cutV F H I ha hb
theorem cut_n {α : Type} {F : α → Frame} {H : α → Heap} {I : α → Prop} (y : α) (hI : I y) (v : Vw n (F y) (H y) fr h) : cutQ n F H I Q .normal fr h := ⟨y, hI, v⟩
theorem cut_x {α : Type} {F : α → Frame} {H : α → Heap} {I : α → Prop} {id : Nat} (q : Q (.exit id) fr h) : cutQ n F H I Q (.exit id) fr h := q
theorem cut_r {α : Type} {F : α → Frame} {H : α → Heap} {I : α → Prop} (q : Q .ret fr h) : cutQ n F H I Q .ret fr h := q
end
/-- A call's end, weakened and cut. -/
theorem CallTo.fin {P : Program} {G : Nat → Nat → Option AV} {h : Heap} {f : FuncId} {as : List AV} {R R' : AEnd → Heap → Prop} (hc : CallTo P G f as h R) (hr : ∀ e q, R e q → ∃ h2, HFin q h2 ∧ e.le h2.length ∧ h.length ≤ h2.length ∧ HLe h2.length h2 ∧ R' e h2) : CallTo P G f as h R' := by
  refine CallTo.drop (R' := fun e q => ∃ h2 g, q = h2 ++ g ∧ e.le h2.length ∧ h.length ≤ h2.length ∧ HLe h2.length h2 ∧ R' e h2) (CallTo.weak hc fun e q r => ?_) fun e q r => ?_
  · obtain ⟨h2, a, b, c, d, e'⟩ := hr e q r
    obtain ⟨g, hg⟩ := a.weak
    exact ⟨_, hg, h2, g, rfl, b, c, d, e'⟩
  · obtain ⟨h2, g, a, b, c, d, e'⟩ := r
    exact ⟨h2, g, a, e', c, b, fun _ => d.mem⟩

/-! Calls on a part of the heap. -/
section
variable {P : Program} {G : Nat → Nat → Option AV} {h : Heap}
theorem fits_enc {α : Type} {k : Nat} {E : Enc α k} (hg : E.Gr) {r : Nat → Nat} {l : List α} {ty : TypeId} {opn wr wr' : Bool} (hw : wr = true → wr' = true) : fits r (.cells (E.of l) ty opn wr) (some (.cells (E.of l) ty opn wr')) := ⟨wr', by rw [hg.ren], hw⟩
theorem fits_gr {r : Nat → Nat} {cs : List AV} {ty : TypeId} {opn wr wr' : Bool} (hg : AVs.gr cs = true) (hw : wr = true → wr' = true) : fits r (.cells cs ty opn wr) (some (.cells cs ty opn wr')) := ⟨wr', by rw [AVs.gr_ren r hg], hw⟩
theorem gr_le {cs : List AV} (h : AVs.gr cs = true) (m : Nat) : AVs.le m cs := AVs.le_mono (Nat.zero_le _) _ (AVs.gr_ok h)
theorem objv_enc {α : Type} {k : Nat} {E : Enc α k} (hg : E.Gr) {s : Nat → Nat} {l : List α} {ty : TypeId} {opn wr : Bool} {h : Heap} {j : Nat} (e : nth h j = some (.cells (E.of l) ty opn wr)) : nth h j = some ((AObj.cells (E.of l) ty opn wr).ren s) := by rw [e, AObj.ren, hg.ren]
theorem objv_gr {cs : List AV} (hg : AVs.gr cs = true) {s : Nat → Nat} {ty : TypeId} {opn wr : Bool} {h : Heap} {j : Nat} (e : nth h j = some (.cells cs ty opn wr)) : nth h j = some ((AObj.cells cs ty opn wr).ren s) := by rw [e, AObj.ren, AVs.gr_ren s hg]
theorem get_fn {fr : Frame} {i : Nat} {f : Fn} {caps : List AV} {s : Nat → Nat} (h2 : s 2 = 2) (hcr : ∀ s : Nat → Nat, s 2 = 2 → AVs.ren s caps = caps) (hg : get fr i = some (.fn f [] caps)) : get fr i = some ((AV.fn f [] caps).ren s) := by
  rw [hg]; simp [AV.ren, AVs.ren, hcr s h2]
theorem RetTo.frameX {f : FuncId} {as0 as : List AV} {h0 h0' h2 : Heap} {v v2 : AV} (hc : RetTo P G f as0 h0 v h0') (l : List Nat) (hd : distinct l = true) (hfit : allFit (rho l h.length) h l h0) (hcl : HLe h0.length h0) (hal : AVs.le h0.length as0)
    (has : AVs.ren (rho l h.length) as0 = as) (hv : v.ren (rho l h.length) = v2) (hh : splice (rho l h.length) h l h0 h0' = h2) : RetTo P G f as h v2 h2 := by
  subst has hv hh
  exact RetTo.frame hc l hd hfit hcl.mem hal
theorem RetTo.frameR {f : FuncId} {as0 as : List AV} {h0 : Heap} {v v2 : AV} (hc : RetTo P G f as0 h0 v h0) (l : List Nat) (hd : distinct l = true) (hfit : allFit (rho l h.length) h l h0) (hcl : HLe h0.length h0) (hal : AVs.le h0.length as0)
    (has : AVs.ren (rho l h.length) as0 = as) (hv : v.ren (rho l h.length) = v2) (hh : splice (rho l h.length) h l h0 h0 = h) : RetTo P G f as h v2 h := hc.frameX l hd hfit hcl hal has hv hh
end

/-! Rules for slices of open objects, and for changes at places that are no numerals. -/
section
variable {P : Program} {Tb : TypeId → Option TInfo} {G : Nat → Nat → Option AV} {N n : Nat} {fr : Frame} {h h0 : Heap} {all : Array Oper} {rest : List Oper} {Q : AExit → Frame → Heap → Prop} {R : Frame → Heap → Prop} {acc : List Kd} {v : AV}
  {d : Nat} {ty : TypeId} {pos : String} {after : Array Edge} {guard : Option (Nat × Bool)}
theorem g_slo (a off m' : Nat) (hT : TbOk P Tb) {t e : TypeId} {x : Operand} {lo hi : Option Operand} {i ei : TInfo} {id len : Nat} {l u : Int} {cs : List AV} {wr : Bool} (hd : Nat.blt d N = true) (hx : ev fr x = some (.slc id 0 len (.opn 0 0))) (hti : Tb t = some i) (hk : i.uk = .slc e) (hei : Tb e = some ei)
    (hob : nth h id = some (.cells cs e true wr)) (hes : Nat.blt 0 ei.size = true) (hl : boundOf fr lo 0 = some l) (hu : boundOf fr hi len = some u) (hb : 0 ≤ l ∧ l ≤ u) (hlen : u.toNat * ei.size ≤ cs.length) (ha : l.toNat = a) (hoff : l.toNat * ei.size = off) (hm : u.toNat - l.toNat = m')
    (kk : opsWP P G N n all rest Q ((d, .slc id off m' (.opn a 0)) :: fr) h) : opsGo P G N n all ⟨some d, .slice t x lo hi none, ty, pos, after, guard⟩ rest Q fr h :=
  by subst ha hoff hm; exact g_step hd (st_slice_opn hT rfl hti hk hei hx hob hes hl hu hb hlen) kk
theorem d_slo (a off m' : Nat) (hT : TbOk P Tb) {t e : TypeId} {x : Operand} {lo hi : Option Operand} {i ei : TInfo} {id len : Nat} {l u : Int} {cs : List AV} {wr : Bool} (hg : gw all (restr fr (looksT all ⟨some d, .slice t x lo hi none, ty, pos, after, guard⟩)) ⟨some d, .slice t x lo hi none, ty, pos, after, guard⟩ = some true) (hd : Nat.blt d N = true)
    (hx : ev (restr fr (looksT all ⟨some d, .slice t x lo hi none, ty, pos, after, guard⟩)) x = some (.slc id 0 len (.opn 0 0))) (hti : Tb t = some i) (hk : i.uk = .slc e) (hei : Tb e = some ei)
    (hob : nth h0 id = some (.cells cs e true wr)) (hes : Nat.blt 0 ei.size = true) (hl : boundOf (restr fr (looksT all ⟨some d, .slice t x lo hi none, ty, pos, after, guard⟩)) lo 0 = some l) (hu : boundOf (restr fr (looksT all ⟨some d, .slice t x lo hi none, ty, pos, after, guard⟩)) hi len = some u) (hb : 0 ≤ l ∧ l ≤ u) (hlen : u.toNat * ei.size ≤ cs.length) (ha : l.toNat = a) (hoff : l.toNat * ei.size = off) (hm : u.toNat - l.toNat = m')
    (kk : DrK P G N all h0 rest (.q true :: acc) R ((d, .slc id off m' (.opn a 0)) :: fr) h) : DrK P G N all h0 (⟨some d, .slice t x lo hi none, ty, pos, after, guard⟩ :: rest) acc R fr h :=
  by subst ha hoff hm; exact d_read hg hd (fun g => st_slice_opn hT rfl hti hk hei hx (Hsub.app h0 g _ _ hob) hes hl hu hb hlen) kk
theorem g_slo3 (off' m' c' : Nat) (hT : TbOk P Tb) {t e : TypeId} {x y : Operand} {lo hi : Option Operand} {i ei : TInfo} {id len : Nat} {l u m : Int} {cs : List AV} {wr : Bool} (hd : Nat.blt d N = true) (hx : ev fr x = some (.slc id 0 len (.opn 0 0))) (hti : Tb t = some i) (hk : i.uk = .slc e) (hei : Tb e = some ei)
    (hob : nth h id = some (.cells cs e true wr)) (hes : Nat.blt 0 ei.size = true) (hl : boundOf fr lo 0 = some l) (hu : boundOf fr hi len = some u) (hm : boundOf fr (some y) 0 = some m) (hxx : hmOk hi (some y) = true) (hb : 0 ≤ l ∧ l ≤ u ∧ u ≤ m) (hlen : m.toNat * ei.size ≤ cs.length)
    (hoff : (l = m ∧ off' = 0) ∨ (l < m ∧ off' = l.toNat * ei.size)) (hm' : u.toNat - l.toNat = m') (hc' : m.toNat - l.toNat = c')
    (kk : opsWP P G N n all rest Q ((d, .slc id off' m' (.exact c')) :: fr) h) : opsGo P G N n all ⟨some d, .slice t x lo hi (some y), ty, pos, after, guard⟩ rest Q fr h :=
  by subst hm' hc'; exact g_step hd (st_slice_opn3 hT off' rfl hti hk hei hx hob hes hl hu hm hxx hb hlen hoff) kk
theorem d_room (len' : Nat) (hT : TbOk P Tb) {x y : Operand} {t u e : TypeId} {ei : TInfo} {z vy : AV} {id len m : Nat} {cs cs' xs : List AV} {fs : Frame} (hg : gw all (restr fr (looksT all ⟨some d, .call { callee := .builtin .append, args := #[x, y], argTypes := #[t, u] }, ty, pos, after, guard⟩)) ⟨some d, .call { callee := .builtin .append, args := #[x, y], argTypes := #[t, u] }, ty, pos, after, guard⟩ = some true) (hd : Nat.blt d N = true)
    (hfs : restr fr (looksT all ⟨some d, .call { callee := .builtin .append, args := #[x, y], argTypes := #[t, u] }, ty, pos, after, guard⟩) = fs) (hx : ev fs x = some (.slc id 0 len (.opn 0 0))) (hy : ev fs y = some vy) (hA : appTy Tb t u = some (e, ei, z)) (hob : nth h id = some (.cells cs e true true)) (hes : Nat.blt 0 ei.size = true)
    (hsrc : srcA Tb h ei.size vy = some (m, xs)) (hn : (len + m) * ei.size ≤ cs.length) (hov : over cs (len * ei.size) xs = some cs') (h1 : allOne xs = true) (hl : len + m = len')
    (kk : DrK P G N all h0 rest (.c false :: acc) R ((d, .slc id 0 len' (.opn 0 0)) :: fr) (setNth h id (.cells cs' e true true))) : DrK P G N all h0 (⟨some d, .call { callee := .builtin .append, args := #[x, y], argTypes := #[t, u] }, ty, pos, after, guard⟩ :: rest) acc R fr h :=
  by subst hl; exact d_chg hg hd (by rw [hfs]; exact st_append_room hT rfl (appTy_ok hA) hx hy hob hes hsrc hn hov h1) kk
theorem g_room (len' : Nat) (hT : TbOk P Tb) {x y : Operand} {t u e : TypeId} {ei : TInfo} {z vy : AV} {id len m : Nat} {cs cs' xs : List AV} (hd : Nat.blt d N = true) (hx : ev fr x = some (.slc id 0 len (.opn 0 0))) (hy : ev fr y = some vy) (hA : appTy Tb t u = some (e, ei, z)) (hob : nth h id = some (.cells cs e true true)) (hes : Nat.blt 0 ei.size = true)
    (hsrc : srcA Tb h ei.size vy = some (m, xs)) (hn : (len + m) * ei.size ≤ cs.length) (hov : over cs (len * ei.size) xs = some cs') (h1 : allOne xs = true) (hl : len + m = len')
    (kk : opsWP P G N n all rest Q ((d, .slc id 0 len' (.opn 0 0)) :: fr) (setNth h id (.cells cs' e true true))) : opsGo P G N n all ⟨some d, .call { callee := .builtin .append, args := #[x, y], argTypes := #[t, u] }, ty, pos, after, guard⟩ rest Q fr h :=
  by subst hl; exact g_step hd (st_append_room hT rfl (appTy_ok hA) hx hy hob hes hsrc hn hov h1) kk
theorem g_clear (hT : TbOk P Tb) {x : Operand} {t e : TypeId} {i ei : TInfo} {z : AV} {id off dl : Nat} {cap : ACap} {cs cs' : List AV} {ty' : TypeId} {opn : Bool} (hx : ev fr x = some (.slc id off dl cap)) (hi : Tb t = some i) (hk : i.uk = .slc e) (hei : Tb e = some ei) (hz : ei.zero = some z) (hzl : Nat.beq z.cells.length ei.size = true)
    (hc : atOk Tb h id off dl ei.size cap = true) (hob : nth h id = some (.cells cs ty' opn true)) (h1 : allOne z.cells = true) (hov : over cs off (repl dl z.cells) = some cs')
    (kk : opsWP P G N n all rest Q fr (setNth h id (.cells cs' ty' opn true))) : opsGo P G N n all ⟨none, .call { callee := .builtin .clear, args := #[x], argTypes := #[t] }, ty, pos, after, guard⟩ rest Q fr h :=
  g_stepN (st_clear hT rfl hi hk hei hz hzl hx hc hob h1 hov) kk
theorem st_app1 (len' : Nat) (hT : TbOk P Tb) {x y : Operand} {t u e : TypeId} {ei : TInfo} {z vy : AV} {id len m : Nat} {cs xs cs' : List AV} {fs : Frame} (hx : ev fs x = some (.slc id 0 len (.opn 0 0))) (hy : ev fs y = some vy) (hA : appTy Tb t u = some (e, ei, z)) (hob : nth h id = some (.cells cs e true true))
    (hsrc : srcA Tb h ei.size vy = some (m, xs)) (h1 : allOne xs = true) (hlen : len * ei.size = cs.length) (hb : (len + m) * ei.bytes ≤ 140737488355328 ∧ len + m ≤ 9223372036854775807) (hcs : cs ++ xs = cs') (hl : len + m = len') :
    StepTo P G ⟨some d, .call { callee := .builtin .append, args := #[x, y], argTypes := #[t, u] }, ty, pos, after, guard⟩ fs h (.slc h.length 0 len' (.opn 0 0)) (setNth h id .dead ++ [.cells cs' e true true]) := by
  subst hl hcs
  have e : cs.take (len * ei.size) = cs := List.take_of_length_le (by omega)
  have := st_append_opn (o := ⟨some d, .call { callee := .builtin .append, args := #[x, y], argTypes := #[t, u] }, ty, pos, after, guard⟩) (G := G) hT rfl (appTy_ok hA) hx hy hob (by omega) hsrc h1 hb.1 hb.2
  rw [e] at this; exact this
theorem d_app1 (len' : Nat) (hT : TbOk P Tb) {x y : Operand} {t u e : TypeId} {ei : TInfo} {z vy : AV} {id len m : Nat} {cs xs cs' : List AV} {fs : Frame} (hg : gw all (restr fr (looksT all ⟨some d, .call { callee := .builtin .append, args := #[x, y], argTypes := #[t, u] }, ty, pos, after, guard⟩)) ⟨some d, .call { callee := .builtin .append, args := #[x, y], argTypes := #[t, u] }, ty, pos, after, guard⟩ = some true) (hd : Nat.blt d N = true)
    (hfs : restr fr (looksT all ⟨some d, .call { callee := .builtin .append, args := #[x, y], argTypes := #[t, u] }, ty, pos, after, guard⟩) = fs) (hx : ev fs x = some (.slc id 0 len (.opn 0 0))) (hy : ev fs y = some vy) (hA : appTy Tb t u = some (e, ei, z)) (hob : nth h id = some (.cells cs e true true))
    (hsrc : srcA Tb h ei.size vy = some (m, xs)) (h1 : allOne xs = true) (hlen : len * ei.size = cs.length) (hb : (len + m) * ei.bytes ≤ 140737488355328 ∧ len + m ≤ 9223372036854775807) (hcs : cs ++ xs = cs') (hl : len + m = len')
    (kk : DrK P G N all h0 rest (.c false :: acc) R ((d, .slc h.length 0 len' (.opn 0 0)) :: fr) (setNth h id .dead ++ [.cells cs' e true true])) :
    DrK P G N all h0 (⟨some d, .call { callee := .builtin .append, args := #[x, y], argTypes := #[t, u] }, ty, pos, after, guard⟩ :: rest) acc R fr h :=
  d_chg hg hd (by rw [hfs]; exact st_app1 len' hT hx hy hA hob hsrc h1 hlen hb hcs hl) kk
theorem st_appN (hT : TbOk P Tb) {x y : Operand} {t u e : TypeId} {ei : TInfo} {z vy : AV} {m : Nat} {xs : List AV} {fs : Frame} (hx : ev fs x = some .nils) (hy : ev fs y = some vy) (hA : appTy Tb t u = some (e, ei, z)) (hsrc : srcA Tb h ei.size vy = some (m, xs))
    (hn : 0 < m) (hb : m * ei.bytes ≤ 140737488355328 ∧ m ≤ 9223372036854775807) :
    StepTo P G ⟨some d, .call { callee := .builtin .append, args := #[x, y], argTypes := #[t, u] }, ty, pos, after, guard⟩ fs h (.slc h.length 0 m (.opn 0 0)) (h ++ [.cells xs e true true]) := by
  have := st_append_grow (fr := fs) (G := G) (len := 0) (cap := 0) (old := []) hT (o := ⟨some d, .call { callee := .builtin .append, args := #[x, y], argTypes := #[t, u] }, ty, pos, after, guard⟩) rfl (appTy_ok hA) hx hy (.inl ⟨rfl, rfl, rfl⟩) rfl hsrc (by omega) (by rw [Nat.zero_add]; exact hb.1) (by omega)
  simpa using this
theorem d_appN (hT : TbOk P Tb) {x y : Operand} {t u e : TypeId} {ei : TInfo} {z vy : AV} {m : Nat} {xs : List AV} {fs : Frame} (hg : gw all (restr fr (looksT all ⟨some d, .call { callee := .builtin .append, args := #[x, y], argTypes := #[t, u] }, ty, pos, after, guard⟩)) ⟨some d, .call { callee := .builtin .append, args := #[x, y], argTypes := #[t, u] }, ty, pos, after, guard⟩ = some true) (hd : Nat.blt d N = true)
    (hfs : restr fr (looksT all ⟨some d, .call { callee := .builtin .append, args := #[x, y], argTypes := #[t, u] }, ty, pos, after, guard⟩) = fs) (hx : ev fs x = some .nils) (hy : ev fs y = some vy) (hA : appTy Tb t u = some (e, ei, z)) (hsrc : srcA Tb h ei.size vy = some (m, xs))
    (hn : 0 < m) (hb : m * ei.bytes ≤ 140737488355328 ∧ m ≤ 9223372036854775807)
    (kk : DrK P G N all h0 rest (.c true :: acc) R ((d, .slc h.length 0 m (.opn 0 0)) :: fr) (h ++ [.cells xs e true true])) :
    DrK P G N all h0 (⟨some d, .call { callee := .builtin .append, args := #[x, y], argTypes := #[t, u] }, ty, pos, after, guard⟩ :: rest) acc R fr h :=
  DrK.cons (v := some (.slc h.length 0 m (.opn 0 0))) (k := .c true) ⟨hg, OpTo.step (by rw [hfs]; exact st_appN hT hx hy hA hsrc hn hb), fun _ => ⟨_, rfl⟩⟩ hd kk
/-- The length of a slice, there or not. -/
def lenV : AV → Option Nat
  | .nils => some 0
  | .slc _ _ n _ => some n
  | _ => none
theorem pure_lenV {x : Operand} {t e : TypeId} {i : TInfo} {v : AV} {m : Nat} {fs : Frame} (hx : ev fs x = some v) (hi : Tb t = some i) (hk : i.uk = .slc e) (hl : lenV v = some m) (h : Heap) :
    pureOp Tb G fs h (.call { callee := .builtin .len, args := #[x], argTypes := #[t] }) = some (.int .i64 m) := by
  cases v <;> simp [lenV] at hl <;> subst hl <;> simp [pureOp, hx, hi, hk]
theorem g_lenV (hT : TbOk P Tb) {x : Operand} {t e : TypeId} {i : TInfo} {v : AV} {m : Nat} (hd : Nat.blt d N = true) (hx : ev fr x = some v) (hi : Tb t = some i) (hk : i.uk = .slc e) (hl : lenV v = some m)
    (kk : opsWP P G N n all rest Q ((d, .int .i64 m) :: fr) h) : opsGo P G N n all ⟨some d, .call { callee := .builtin .len, args := #[x], argTypes := #[t] }, ty, pos, after, guard⟩ rest Q fr h :=
  g_pure hT hd (pure_lenV hx hi hk hl h) kk
theorem d_lenV (hT : TbOk P Tb) {x : Operand} {t e : TypeId} {i : TInfo} {v : AV} {m : Nat} (hg : gw all (restr fr (looksT all ⟨some d, .call { callee := .builtin .len, args := #[x], argTypes := #[t] }, ty, pos, after, guard⟩)) ⟨some d, .call { callee := .builtin .len, args := #[x], argTypes := #[t] }, ty, pos, after, guard⟩ = some true) (hd : Nat.blt d N = true)
    (hx : ev (restr fr (looksT all ⟨some d, .call { callee := .builtin .len, args := #[x], argTypes := #[t] }, ty, pos, after, guard⟩)) x = some v) (hi : Tb t = some i) (hk : i.uk = .slc e) (hl : lenV v = some m)
    (kk : DrK P G N all h0 rest (.q false :: acc) R ((d, .int .i64 m) :: fr) h) : DrK P G N all h0 (⟨some d, .call { callee := .builtin .len, args := #[x], argTypes := #[t] }, ty, pos, after, guard⟩ :: rest) acc R fr h :=
  d_any hg hd (fun h => pure_step hT (pure_lenV hx hi hk hl h)) kk
/-- A rest, of numbers that are not below 0. -/
theorem g_rem (hT : TbOk P Tb) {t u : TypeId} {x y : Operand} {k k' : IntKind} {a b : Int} (hd : Nat.blt d N = true) (hx : ev fr x = some (.int k a)) (hy : ev fr y = some (.int k' b)) (hk : kindEq k k' = true) (h0 : 0 ≤ a ∧ 0 < b)
    (kk : opsWP P G N n all rest Q ((d, .int k (a % b)) :: fr) h) : opsGo P G N n all ⟨some d, .binOp .rem t x y u, ty, pos, after, guard⟩ rest Q fr h := by
  refine g_pure hT hd (v := .int k (a % b)) ?_ kk
  cases kindEq_eq hk
  simp only [pureOp, hx, hy, binA, hk, cond_true, arith, if_neg (show ¬ b = 0 by omega), Int.tmod_eq_emod_of_nonneg h0.1]
theorem g_quo (hT : TbOk P Tb) {t u : TypeId} {x y : Operand} {k k' : IntKind} {a b : Int} (hd : Nat.blt d N = true) (hx : ev fr x = some (.int k a)) (hy : ev fr y = some (.int k' b)) (hk : kindEq k k' = true) (h0 : 0 ≤ a ∧ 0 < b) (hr : inR k (a / b))
    (kk : opsWP P G N n all rest Q ((d, .int k (a / b)) :: fr) h) : opsGo P G N n all ⟨some d, .binOp .quo t x y u, ty, pos, after, guard⟩ rest Q fr h := by
  refine g_pure hT hd (v := .int k (a / b)) ?_ kk
  cases kindEq_eq hk
  simp only [pureOp, hx, hy, binA, hk, cond_true, arith, if_neg (show ¬ b = 0 by omega), Int.tdiv_eq_ediv_of_nonneg h0.1, wrap_inR hr]
/-- A shift to the right. -/
theorem g_shr (c : Int) (hT : TbOk P Tb) {t u : TypeId} {x y : Operand} {k k' : IntKind} {a b : Int} (hd : Nat.blt d N = true) (hx : ev fr x = some (.int k a)) (hy : ev fr y = some (.int k' b)) (hb : 0 ≤ b) (hc : (2 : Int) ^ (min b.toNat k.bits) = c)
    (kk : opsWP P G N n all rest Q ((d, .int k (a / c)) :: fr) h) : opsGo P G N n all ⟨some d, .binOp .shr t x y u, ty, pos, after, guard⟩ rest Q fr h := by
  refine g_pure hT hd (v := .int k (a / c)) ?_ kk
  have : a.fdiv c = a / c := Int.fdiv_eq_ediv_of_nonneg _ (by subst hc; exact Int.pow_nonneg (by decide))
  simp only [pureOp, hx, hy, binA, shiftA, if_neg (show ¬ b < 0 by omega), hc, this]
/-- An append to an open slice. -/
theorem g_app1 (len' : Nat) (hT : TbOk P Tb) {x y : Operand} {t u e : TypeId} {ei : TInfo} {z vy : AV} {id len m : Nat} {cs xs cs' : List AV} (hd : Nat.blt d N = true) (hx : ev fr x = some (.slc id 0 len (.opn 0 0))) (hy : ev fr y = some vy) (hA : appTy Tb t u = some (e, ei, z)) (hob : nth h id = some (.cells cs e true true))
    (hsrc : srcA Tb h ei.size vy = some (m, xs)) (h1 : allOne xs = true) (hlen : len * ei.size = cs.length) (hb : (len + m) * ei.bytes ≤ 140737488355328 ∧ len + m ≤ 9223372036854775807) (hcs : cs ++ xs = cs') (hl : len + m = len')
    (kk : opsWP P G N n all rest Q ((d, .slc h.length 0 len' (.opn 0 0)) :: fr) (setNth h id .dead ++ [.cells cs' e true true])) :
    opsGo P G N n all ⟨some d, .call { callee := .builtin .append, args := #[x, y], argTypes := #[t, u] }, ty, pos, after, guard⟩ rest Q fr h := by
  subst hl hcs
  have e : cs.take (len * ei.size) = cs := List.take_of_length_le (by omega)
  have := @g_appO
  refine g_appO hT hd hx hy hA hob hsrc h1 (by omega) hb ?_
  rw [e]; exact kk
end
end Go.Fm
