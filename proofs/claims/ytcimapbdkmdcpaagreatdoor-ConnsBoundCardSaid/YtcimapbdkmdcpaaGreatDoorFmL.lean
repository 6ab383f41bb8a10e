/- FM, a program logic over the given model with abstract values and an abstract heap: general lemmas. No statement is closed in this text. -/
import Derived.Test.YtcimapbdkmdcpaaGreatDoorFmK
set_option linter.unusedVariables false
set_option linter.unusedSimpArgs false
namespace Go.Fm
open Go

def AEnd.le (n : Nat) : AEnd → Prop
  | .ret v => v.le n
  | .panic v => v.le n

section
variable {P : Program} {Tb : TypeId → Option TInfo} {G : Nat → Nat → Option AV} {μ κ : Nat → Nat} {h : Heap} {N n : Nat} {fr : Frame} {a : Act} {w w' : World}

/-- What is behind is forgotten. -/
theorem HRel.prefix {g : Heap} (r : HRel P G μ κ (h ++ g) w) (hle : ∀ o ∈ h, AObj.le h.length o) : HRel P G μ κ h w where
  obj i q hq hl := r.obj i q (by rw [List.getElem?_append_left (lt_of_get hq)]; exact hq) hl
  sep i j oi oj hi hj := r.sep i j oi oj (by rw [List.getElem?_append_left (lt_of_get hi)]; exact hi) (by rw [List.getElem?_append_left (lt_of_get hj)]; exact hj)
  le i q hq := hle q (List.mem_of_getElem? hq)
  glob := r.glob
  apart i q g gj gv hi := r.apart i q g gj gv (by rw [List.getElem?_append_left (lt_of_get hi)]; exact hi)

theorem Ext.prefix {μ' κ' : Nat → Nat} {h₀ g : Heap} (x : Ext μ κ μ' κ' h₀ (h ++ g) w w') (hn : h₀.length ≤ h.length) : Ext μ κ μ' κ' h₀ h w w' :=
  ⟨x.os, x.tape, x.output, x.size, hn, x.agree, x.keep, fun i q hq => x.fresh i q (by rw [List.getElem?_append_left (lt_of_get hq)]; exact hq)⟩

theorem HRel.closed (r : HRel P G μ κ h w) : ∀ o ∈ h, AObj.le h.length o := by
  intro o ho
  obtain ⟨i, hi⟩ := List.getElem?_of_mem ho
  exact r.le i o hi

/-- Garbage is dropped: the heap of the call is a part of what the body came to. -/
theorem CallTo.drop {f : FuncId} {as : List AV} {R R' : AEnd → Heap → Prop} (hc : CallTo P G f as h R')
    (hr : ∀ e h', R' e h' → ∃ h2 g, h' = h2 ++ g ∧ R e h2 ∧ h.length ≤ h2.length ∧ e.le h2.length ∧ ((∀ o ∈ h, AObj.le h.length o) → ∀ o ∈ h2, AObj.le h2.length o)) : CallTo P G f as h R := by
  intro μ κ w hh hl
  refine (hc μ κ w hh hl).mono ?_
  rintro e w' ⟨μ', κ', e', h', q, er, hh', hx⟩
  obtain ⟨h2, g, rfl, q2, hl2, hel, hcl⟩ := hr e' h' q
  refine ⟨μ', κ', e', h2, q2, ?_, hh'.prefix (hcl hh.closed), hx.prefix hl2⟩
  cases e' with
  | ret v => exact ⟨er.1, hel⟩
  | panic v => exact ⟨er.1, hel⟩

/-- A call whose garbage is dropped, and that leaves the heap as it was. -/
theorem RetTo.drop {f : FuncId} {as : List AV} {v : AV} (hc : CallTo P G f as h (fun e h' => e = .ret v ∧ ∃ g, h' = h ++ g)) (hv : v.le h.length) : RetTo P G f as h v h :=
  hc.drop fun e h' q => by
    obtain ⟨rfl, g, rfl⟩ := q
    exact ⟨h, g, rfl, ⟨rfl, rfl⟩, Nat.le_refl _, hv, fun x => x⟩

/-- A call of values that lead nowhere: run on nothing, it is run on anything. -/
theorem CallTo.ground {f : FuncId} {as : List AV} {R : AEnd → Heap → Prop} (hc : CallTo P G f as [] R) (hl : AVs.le 0 as) (hr : ∀ e h0, R e h0 → e.le 0) (h : Heap) : CallTo P G f as h (fun e h' => h' = h ∧ ∃ h0, R e h0) := by
  intro μ κ w hh _
  have hh0 : HRel P G μ κ [] w := ⟨fun i o q => by simp at q, fun i j oi oj q => by simp at q, fun i o q => by simp at q, hh.glob, fun i o g gj gv q => by simp at q⟩
  refine (hc μ κ w hh0 hl).mono ?_
  rintro e w' ⟨μ', κ', e', h', q, er, hh', hx⟩
  have hel := hr e' h' q
  have ce : ∀ v : AV, v.le 0 → conc μ' κ' v = conc μ κ v := fun v hv => conc_congr (n := 0) (fun i hi => absurd hi (Nat.not_lt_zero _)) v hv
  have kp : ∀ b, b < w.heap.size → w'.heap[b]? = w.heap[b]? := fun b hb => hx.keep b hb (fun i o q => by simp at q)
  have lt : ∀ {b : Nat} {o : Obj}, w.heap[b]? = some o → b < w.heap.size := by
    intro b o hb
    rcases Nat.lt_or_ge b w.heap.size with x | x
    · exact x
    · simp [Array.getElem?_eq_none x] at hb
  refine ⟨μ, κ, e', h, ⟨rfl, h', q⟩, ?_, ⟨?_, hh.sep, hh.le, ?_, hh.apart⟩, ⟨hx.os, hx.tape, hx.output, hx.size, Nat.le_refl _, fun _ _ => ⟨rfl, rfl⟩, fun b hb _ => kp b hb, fun i o hi ho => .inl ⟨lt_of_get hi, o, hi, id, ho⟩⟩⟩
  · cases e' with
    | ret v => exact ⟨by rw [er.1, ce v hel], AV.le_mono (Nat.zero_le _) _ hel⟩
    | panic v => exact ⟨by rw [er.1, ce v hel], AV.le_mono (Nat.zero_le _) _ hel⟩
  · intro i o hi ho
    obtain ⟨b, hb, hr⟩ := hh.obj i o hi ho
    exact ⟨b, by rw [kp _ (lt hb)]; exact hb, hr⟩
  · intro g gj gv hg
    obtain ⟨r1, r2⟩ := hh.glob g gj gv hg
    exact ⟨by rw [cell_congr (w := w) (w' := w') (kp _ (cell_lt r1))]; exact r1, r2⟩

/-- A function of plain values. -/
def PureF (P : Program) (G : Nat → Nat → Option AV) (f : FuncId) (as : List AV) (v : AV) : Prop := ∀ h, RetTo P G f as h v h

theorem PureF.of {f : FuncId} {as : List AV} {v : AV} (hc : CallTo P G f as [] (fun e _ => e = .ret v)) (hl : AVs.le 0 as) (hv : v.le 0) : PureF P G f as v := fun h =>
  (hc.ground hl (by rintro e h0 rfl; exact hv) h).mono (by rintro e h' ⟨rfl, h0, rfl⟩; exact ⟨rfl, rfl⟩)

/-! A call on a part of the heap. -/
mutual
def AV.ren (r : Nat → Nat) : AV → AV
  | .ptr id off => .ptr (r id) off
  | .slc id off len c => .slc (r id) off len c
  | .mp id => .mp (r id)
  | .fn f a b => .fn f (AVs.ren r a) (AVs.ren r b)
  | .ifc t v => .ifc t (v.ren r)
  | .agg cs => .agg (AVs.ren r cs)
  | .tup vs => .tup (AVs.ren r vs)
  | v => v
def AVs.ren (r : Nat → Nat) : List AV → List AV
  | [] => []
  | v :: t => v.ren r :: AVs.ren r t
end

mutual
theorem conc_ren {μ₁ κ₁ : Nat → Nat} {r : Nat → Nat} {m : Nat} (hag : ∀ i, i < m → μ₁ (r i) = μ i ∧ κ₁ (r i) = κ i) : ∀ v : AV, v.le m → conc μ₁ κ₁ (v.ren r) = conc μ κ v
  | .bool _, _ | .int _ _, _ | .str _, _ | .gptr _ _, _ | .gslc _ _ _ _, _ | .nilp, _ | .nils, _ | .nilm, _ | .nilf, _ | .nili, _ => rfl
  | .ptr id off, hl => by simp only [conc, AV.ren, (hag id hl).1]
  | .slc id off len (.exact c), hl => by simp only [conc, AV.ren, (hag id hl).1]
  | .slc id off len (.opn c p), hl => by simp only [conc, AV.ren, (hag id hl).1, (hag id hl).2]
  | .mp id, hl => by simp only [conc, AV.ren, (hag id hl).1]
  | .fn f a b, hl => by simp only [conc, AV.ren, concs_ren hag a hl.1, concs_ren hag b hl.2]
  | .ifc t v, hl => by simp only [conc, AV.ren, conc_ren hag v hl]
  | .agg cs, hl => by simp only [conc, AV.ren, concs_ren hag cs hl]
  | .tup cs, hl => by simp only [conc, AV.ren, concs_ren hag cs hl]
theorem concs_ren {μ₁ κ₁ : Nat → Nat} {r : Nat → Nat} {m : Nat} (hag : ∀ i, i < m → μ₁ (r i) = μ i ∧ κ₁ (r i) = κ i) : ∀ l : List AV, AVs.le m l → concs μ₁ κ₁ (AVs.ren r l) = concs μ κ l
  | [], _ => rfl
  | v :: t, hl => by simp only [concs, AVs.ren, conc_ren hag v hl.1, concs_ren hag t hl.2]
end

mutual
theorem le_ren {r : Nat → Nat} {m k : Nat} (hr : ∀ i, i < m → r i < k) : ∀ v : AV, v.le m → (v.ren r).le k
  | .bool _, _ | .int _ _, _ | .str _, _ | .gptr _ _, _ | .gslc _ _ _ _, _ | .nilp, _ | .nils, _ | .nilm, _ | .nilf, _ | .nili, _ => trivial
  | .ptr id off, hl => hr id hl
  | .slc id off len c, hl => hr id hl
  | .mp id, hl => hr id hl
  | .fn f a b, hl => ⟨les_ren hr a hl.1, les_ren hr b hl.2⟩
  | .ifc t v, hl => le_ren hr v hl
  | .agg cs, hl => les_ren hr cs hl
  | .tup cs, hl => les_ren hr cs hl
theorem les_ren {r : Nat → Nat} {m k : Nat} (hr : ∀ i, i < m → r i < k) : ∀ l : List AV, AVs.le m l → AVs.le k (AVs.ren r l)
  | [], _ => trivial
  | v :: t, hl => ⟨le_ren hr v hl.1, les_ren hr t hl.2⟩
end

def AObj.ren (r : Nat → Nat) : AObj → AObj
  | .cells cs ty opn wr => .cells (AVs.ren r cs) ty opn wr
  | .sit s p => .sit s p
  | .mapo es c => .mapo (es.map fun e => (e.1.ren r, e.2.1.ren r, e.2.2)) c
  | .dead => .dead
def AEnd.ren (r : Nat → Nat) : AEnd → AEnd
  | .ret v => .ret (v.ren r)
  | .panic v => .panic (v.ren r)

theorem objRel_ren {μ₁ κ₁ : Nat → Nat} {r : Nat → Nat} {m : Nat} (hag : ∀ i, i < m → μ₁ (r i) = μ i ∧ κ₁ (r i) = κ i) {id : Nat} (hid : id < m) {o : AObj} (hl : AObj.le m o) {b : Obj} (hr : objRel P μ κ id o b) : objRel P μ₁ κ₁ (r id) (o.ren r) b := by
  cases o with
  | cells cs ty opn wr =>
    obtain ⟨c, fz, extra, e1, e2, e3, e4, e5⟩ := hr
    exact ⟨c, fz, extra, e1, by rw [e2, concs_ren hag cs hl], e3, fun q => by rw [e4 q, (hag id hid).2], e5⟩
  | sit s p => exact hr
  | mapo es c =>
    simp only [objRel, AObj.ren] at hr ⊢
    rw [hr]
    congr 2
    rw [List.map_map]
    apply List.map_congr_left
    intro e he
    have q := hl e he
    simp only [Function.comp, entC, conc_ren hag _ q.1, conc_ren hag _ q.2]
  | dead => trivial
theorem AObj.ren_own (r : Nat → Nat) (o : AObj) : (o.ren r).own = o.own := by cases o <;> rfl
theorem AObj.ren_live (r : Nat → Nat) (o : AObj) : (o.ren r).live = o.live := by cases o <;> rfl
theorem AObj.ren_le {r : Nat → Nat} {m k : Nat} (hr : ∀ i, i < m → r i < k) {o : AObj} (hl : AObj.le m o) : AObj.le k (o.ren r) := by
  cases o with
  | cells cs ty opn wr => exact les_ren hr cs hl
  | sit s p => trivial
  | mapo es c =>
    intro e he
    obtain ⟨x, hx, rfl⟩ := List.mem_map.1 he
    exact ⟨le_ren hr _ (hl x hx).1, le_ren hr _ (hl x hx).2⟩
  | dead => trivial

/-- Numbers of a part, as the whole has them. -/
def rho (l : List Nat) (base : Nat) (i : Nat) : Nat := match nth l i with
  | some j => j
  | none => base + (i - l.length)

/-- Objects that were the call's own are put back, new ones stand behind. -/
def splice (r : Nat → Nat) : Heap → List Nat → Heap → Heap → Heap
  | h, j :: l, o :: h0, o' :: h0' => splice r (match o.own with
    | true => setNth h j (o'.ren r)
    | false => h) l h0 h0'
  | h, _, _, rest => h ++ rest.map (AObj.ren r)

/-- One object fits in the place of another. -/
def fits (r : Nat → Nat) (o : AObj) (o' : Option AObj) : Prop :=
  match o with
  | .cells cs ty opn wr => ∃ wr', o' = some (.cells (AVs.ren r cs) ty opn wr') ∧ (wr = true → wr' = true)
  | o => o' = some (o.ren r)

def allFit (r : Nat → Nat) (h : Heap) : List Nat → Heap → Prop
  | j :: l, o :: h0 => fits r o (nth h j) ∧ allFit r h l h0
  | [], [] => True
  | _, _ => False

def distinct : List Nat → Bool
  | [] => true
  | x :: t => bif t.all (fun y => !Nat.beq x y) then distinct t else false

theorem distinct_ne : ∀ {l : List Nat}, distinct l = true → ∀ i j x y : Nat, l[i]? = some x → l[j]? = some y → i ≠ j → x ≠ y
  | [], _, i, j, x, y, hi, _, _ => by simp at hi
  | z :: t, hd, i, j, x, y, hi, hj, hne => by
    simp only [distinct] at hd
    cases hz : t.all (fun y => !Nat.beq z y) with
    | false => simp [hz] at hd
    | true =>
      simp [hz] at hd
      rw [List.all_eq_true] at hz
      have far : ∀ k u : Nat, t[k]? = some u → z ≠ u := by
        intro k u hu e
        have := hz u (List.mem_of_getElem? hu)
        subst e
        simp at this
      cases i with
      | zero =>
        cases j with
        | zero => exact absurd rfl hne
        | succ j => simp at hi hj; subst hi; exact far j y hj
      | succ i =>
        cases j with
        | zero => simp at hi hj; subst hj; exact Ne.symm (far i x hi)
        | succ j => simp at hi hj; exact distinct_ne hd i j x y hi hj (by omega)

theorem allFit_len : ∀ {r : Nat → Nat} {h : Heap} {l : List Nat} {h0 : Heap}, allFit r h l h0 → l.length = h0.length
  | r, h, [], [], _ => rfl
  | r, h, [], _ :: _, q => by simp [allFit] at q
  | r, h, _ :: _, [], q => by simp [allFit] at q
  | r, h, j :: l, o :: h0, q => by simp [allFit_len q.2]

theorem allFit_get : ∀ {r : Nat → Nat} {h : Heap} {l : List Nat} {h0 : Heap}, allFit r h l h0 → ∀ (i : Nat) (o : AObj), h0[i]? = some o → ∃ j, l[i]? = some j ∧ fits r o h[j]?
  | r, h, [], [], _, i, o, hi => by simp at hi
  | r, h, [], _ :: _, q, i, o, hi => by simp [allFit] at q
  | r, h, _ :: _, [], q, i, o, hi => by simp at hi
  | r, h, j :: l, o1 :: h0, q, i, o, hi => by
    cases i with
    | zero => simp at hi; subst hi; exact ⟨j, rfl, by have := q.1; rw [nth_eq] at this; exact this⟩
    | succ i => simpa using allFit_get q.2 i o (by simpa using hi)

/-- What stands where, behind a call on a part. -/
theorem splice_get (r : Nat → Nat) : ∀ (l : List Nat) (h0 h0' h : Heap), l.length = h0.length → h0.length ≤ h0'.length → distinct l = true → (∀ j ∈ l, j < h.length) →
    (splice r h l h0 h0').length = h.length + (h0'.length - h0.length) ∧
    ∀ k, (splice r h l h0 h0')[k]? = if k < h.length then (match (List.range h0.length).find? (fun i => l[i]? == some k && ((h0[i]?).map AObj.own).getD false) with
      | some i => (h0'[i]?).map (AObj.ren r)
      | none => h[k]?) else (h0'[h0.length + (k - h.length)]?).map (AObj.ren r) := by
  intro l
  induction l with
  | nil =>
    intro h0 h0' h hl hle hd hj
    have : h0 = [] := List.eq_nil_of_length_eq_zero hl.symm
    subst this
    have e : splice r h [] [] h0' = h ++ h0'.map (AObj.ren r) := by cases h0' <;> rfl
    rw [e]
    refine ⟨by simp, fun k => ?_⟩
    by_cases hk : k < h.length
    · rw [if_pos hk, List.getElem?_append_left hk]; rfl
    · rw [if_neg hk, List.getElem?_append_right (by omega)]; simp
  | cons j l ih =>
    intro h0 h0' h hl hle hd hj
    cases h0 with
    | nil => simp at hl
    | cons o h0 =>
      cases h0' with
      | nil => simp at hle
      | cons o' h0' =>
        simp only [List.length_cons, Nat.add_right_cancel_iff, Nat.add_le_add_iff_right] at hl hle
        have hd2 : distinct l = true := by
          simp only [distinct] at hd
          cases hz : l.all (fun y => !Nat.beq j y) with
          | false => simp [hz] at hd
          | true => simpa [hz] using hd
        have hne : ∀ i x : Nat, l[i]? = some x → x ≠ j := fun i x hx => Ne.symm (distinct_ne hd 0 (i + 1) j x rfl (by simpa using hx) (by omega))
        have hjl : j < h.length := hj j (List.mem_cons_self ..)
        simp only [splice]
        generalize hh1 : (match o.own with
          | true => setNth h j (o'.ren r)
          | false => h) = h1
        have hlen : h1.length = h.length := by
          subst hh1; cases o.own <;> simp [setNth_eq]
        have h1get : ∀ k, h1[k]? = if k = j ∧ o.own = true then some (o'.ren r) else h[k]? := by
          intro k
          subst hh1
          cases ho : o.own with
          | true =>
            simp only [setNth_eq, and_true]
            by_cases e : k = j
            · subst e; simp [hjl]
            · rw [if_neg e, List.getElem?_set_ne (Ne.symm e)]
          | false => simp
        obtain ⟨i1, i2⟩ := ih h0 h0' h1 hl hle hd2 (fun x hx => by rw [hlen]; exact hj x (List.mem_cons_of_mem _ hx))
        refine ⟨by rw [i1, hlen]; simp, fun k => ?_⟩
        rw [i2 k, hlen]
        by_cases hk : k < h.length
        · rw [if_pos hk, if_pos hk]
          rw [show (o :: h0).length = h0.length + 1 from rfl, List.range_succ_eq_map, List.find?_cons]
          by_cases e : k = j ∧ o.own = true
          · obtain ⟨rfl, ho⟩ := e
            have : (List.range h0.length).find? (fun i => l[i]? == some k && ((h0[i]?).map AObj.own).getD false) = none := by
              rw [List.find?_eq_none]
              intro i _
              simp only [Bool.and_eq_true, beq_iff_eq, not_and]
              intro hx
              exact absurd rfl (hne i k hx)
            rw [this, h1get, if_pos ⟨rfl, ho⟩]
            simp [ho]
          · have f0 : ((j :: l)[0]? == some k && (((o :: h0)[0]?).map AObj.own).getD false) = false := by
              simp only [List.getElem?_cons_zero, Option.map_some, Option.getD_some]
              by_cases ek : j = k
              · subst ek
                have : o.own = false := by
                  cases ho : o.own with
                  | true => exact absurd ⟨rfl, ho⟩ e
                  | false => rfl
                simp [this]
              · simp [ek]
            simp only [f0]
            rw [List.find?_map]
            have ef : ((fun i => (j :: l)[i]? == some k && (((o :: h0)[i]?).map AObj.own).getD false) ∘ Nat.succ) = fun i => l[i]? == some k && ((h0[i]?).map AObj.own).getD false := by
              funext i; simp
            rw [ef]
            cases hf : (List.range h0.length).find? (fun i => l[i]? == some k && ((h0[i]?).map AObj.own).getD false) with
            | none => simp only [Option.map_none]; rw [h1get, if_neg e]
            | some i => simp
        · rw [if_neg hk, if_neg hk]
          have : (o :: h0).length + (k - h.length) = (h0.length + (k - h.length)) + 1 := by simp; omega
          rw [this, List.getElem?_cons_succ]

/-- A call that is known on a part of the heap. -/
theorem CallTo.frame {f : FuncId} {as0 : List AV} {h0 : Heap} {R0 : AEnd → Heap → Prop} (hc : CallTo P G f as0 h0 R0) (l : List Nat) (hd : distinct l = true) (hfit : allFit (rho l h.length) h l h0)
    (hcl : ∀ o ∈ h0, AObj.le h0.length o) (hal : AVs.le h0.length as0) :
    CallTo P G f (AVs.ren (rho l h.length) as0) h (fun e h' => ∃ e0 h0', R0 e0 h0' ∧ e = e0.ren (rho l h.length) ∧ h' = splice (rho l h.length) h l h0 h0') := by
  intro μ κ w hh _
  generalize hr : rho l h.length = r at *
  have hlen := allFit_len hfit
  have fit := allFit_get hfit
  have rget : ∀ (i j : Nat), l[i]? = some j → r i = j := by
    intro i j hij; subst hr; simp [rho, nth_eq, hij]
  have rge : ∀ i, l.length ≤ i → r i = h.length + (i - l.length) := by
    intro i hi; subst hr; simp [rho, nth_eq, List.getElem?_eq_none hi]
  have getsome : ∀ (i : Nat) (o : AObj), h0[i]? = some o → ∃ o', h[r i]? = some o' ∧ (o.own = true → o'.own = true) ∧ (o.live = true → o'.live = true) := by
    intro i o hi
    obtain ⟨j, hj, hf⟩ := fit i o hi
    rw [rget i j hj]
    cases o with
    | cells cs ty opn wr => obtain ⟨wr', e, hw⟩ := hf; exact ⟨_, e, hw, fun _ => rfl⟩
    | sit s p => exact ⟨_, hf, fun x => x, fun x => x⟩
    | mapo es c => exact ⟨_, hf, fun x => x, fun x => x⟩
    | dead => exact ⟨_, hf, fun x => x, fun x => x⟩
  have rlt : ∀ i, i < h0.length → r i < h.length := by
    intro i hi
    obtain ⟨o', h1, _⟩ := getsome i _ (List.getElem?_eq_getElem hi)
    exact lt_of_get h1
  have rinj : ∀ i j, i < h0.length → j < h0.length → i ≠ j → r i ≠ r j := by
    intro i j hi hj hne
    obtain ⟨a, ha⟩ : ∃ a, l[i]? = some a := ⟨_, List.getElem?_eq_getElem (by omega)⟩
    obtain ⟨b, hb⟩ : ∃ b, l[j]? = some b := ⟨_, List.getElem?_eq_getElem (by omega)⟩
    rw [rget i a ha, rget j b hb]
    exact distinct_ne hd i j a b ha hb hne
  let μ0 : Nat → Nat := fun i => μ (r i)
  let κ0 : Nat → Nat := fun i => κ (r i)
  have hag0 : ∀ i, i < h0.length → μ (r i) = μ0 i ∧ κ (r i) = κ0 i := fun i _ => ⟨rfl, rfl⟩
  have hlt : ∀ {b : Nat} {o : Obj} {v : World}, v.heap[b]? = some o → b < v.heap.size := by
    intro b o v hb
    rcases Nat.lt_or_ge b v.heap.size with x | x
    · exact x
    · simp [Array.getElem?_eq_none x] at hb
  have g0 : ∀ (μa κa μb κb : Nat → Nat) (cs : List AV), AVs.le 0 cs → concs μa κa cs = concs μb κb cs := fun _ _ _ _ cs hl => concs_congr (n := 0) (fun i hi => absurd hi (Nat.not_lt_zero _)) cs hl
  have hh0 : HRel P G μ0 κ0 h0 w := by
    refine ⟨?_, ?_, ?_, ?_, ?_⟩
    · intro i o hi hlive
      obtain ⟨j, hj, hf⟩ := fit i o hi
      have hrj := rget i j hj
      have hile := lt_of_get hi
      have hole := hcl o (List.mem_of_getElem? hi)
      cases o with
      | cells cs ty opn wr =>
        obtain ⟨wr', e, hw⟩ := hf
        obtain ⟨b, hb, c, fz, extra, e1, e2, e3, e4, e5⟩ := hh.obj j _ e rfl
        refine ⟨b, by show w.heap[μ (r i)]? = _; rw [hrj]; exact hb, c, fz, extra, e1, ?_, e3, fun q => by show _ = κ (r i) * _; rw [hrj]; exact e4 q, fun q => e5 (hw q)⟩
        rw [e2, concs_ren hag0 cs hole]
      | sit s p =>
        obtain ⟨b, hb, e1⟩ := hh.obj j _ hf rfl
        exact ⟨b, by show w.heap[μ (r i)]? = _; rw [hrj]; exact hb, e1⟩
      | mapo es c =>
        obtain ⟨b, hb, e1⟩ := hh.obj j _ hf rfl
        refine ⟨b, by show w.heap[μ (r i)]? = _; rw [hrj]; exact hb, ?_⟩
        simp only [objRel] at e1 ⊢
        rw [e1]
        congr 2
        rw [List.map_map]
        apply List.map_congr_left
        intro e he
        have q := hole e he
        simp only [Function.comp, entC, conc_ren hag0 _ q.1, conc_ren hag0 _ q.2]
      | dead => simp [AObj.live] at hlive
    · intro i j oi oj hi hj hne ho hl
      obtain ⟨oi', a1, a2, _⟩ := getsome i oi hi
      obtain ⟨oj', b1, _, b3⟩ := getsome j oj hj
      exact hh.sep (r i) (r j) oi' oj' a1 b1 (rinj i j (lt_of_get hi) (lt_of_get hj) hne) (a2 ho) (b3 hl)
    · exact fun i o hi => hcl o (List.mem_of_getElem? hi)
    · intro g gj gv hg
      obtain ⟨h2, h3⟩ := hh.glob g gj gv hg
      exact ⟨by rw [h2]; exact congrArg some (conc_congr (n := 0) (fun i hi => absurd hi (Nat.not_lt_zero _)) gv h3), h3⟩
    · intro i o g gj gv hi ho hg
      obtain ⟨oi', a1, a2, _⟩ := getsome i o hi
      exact hh.apart (r i) oi' g gj gv a1 (a2 ho) hg
  have eargs : concs μ κ (AVs.ren r as0) = concs μ0 κ0 as0 := concs_ren hag0 as0 hal
  rw [eargs]
  refine (hc μ0 κ0 w hh0 hal).mono ?_
  rintro e w' ⟨μ', κ', e0, h0', q, er, hh', hx⟩
  have hge : h0.length ≤ h0'.length := hx.len
  have hm : l.length = h0.length := hlen
  obtain ⟨slen, sget⟩ := splice_get r l h0 h0' h hlen hge hd (fun j hj => by
    obtain ⟨i, hi⟩ := List.getElem?_of_mem hj
    have := rlt i (by have := lt_of_get hi; omega)
    rw [rget i j hi] at this; exact this)
  let μ2 : Nat → Nat := fun i => if i < h.length then μ i else μ' (h0.length + (i - h.length))
  let κ2 : Nat → Nat := fun i => if i < h.length then κ i else κ' (h0.length + (i - h.length))
  have hag2 : ∀ i, i < h0'.length → μ2 (r i) = μ' i ∧ κ2 (r i) = κ' i := by
    intro i hi
    by_cases c : i < h0.length
    · have := rlt i c
      have ag := hx.agree i c
      simp only [μ2, κ2, this, if_true]
      exact ⟨ag.1.symm, ag.2.symm⟩
    · have e1 : r i = h.length + (i - h0.length) := by rw [rge i (by omega), hm]
      have e2 : ¬ r i < h.length := by omega
      simp only [μ2, κ2, e2, if_false]
      have : h0.length + (r i - h.length) = i := by omega
      rw [this]; exact ⟨rfl, rfl⟩
  have rlt2 : ∀ i, i < h0'.length → r i < h.length + (h0'.length - h0.length) := by
    intro i hi
    by_cases c : i < h0.length
    · have := rlt i c; omega
    · rw [rge i (by omega)]; omega
  -- where each object comes from
  have src : ∀ (k : Nat) (o : AObj), (splice r h l h0 h0')[k]? = some o →
      (∃ i oi, h0'[i]? = some oi ∧ o = oi.ren r ∧ r i = k ∧ (i < h0.length → ∃ oo, h0[i]? = some oo ∧ oo.own = true)) ∨
      (k < h.length ∧ h[k]? = some o ∧ ∀ i oi, h0[i]? = some oi → oi.own = true → r i ≠ k) := by
    intro k o hk
    rw [sget k] at hk
    by_cases c : k < h.length
    · rw [if_pos c] at hk
      cases hf : (List.range h0.length).find? (fun i => l[i]? == some k && ((h0[i]?).map AObj.own).getD false) with
      | some i =>
        rw [hf] at hk
        simp only [Option.map_eq_some_iff] at hk
        obtain ⟨oi, h1, h2⟩ := hk
        have hp := List.find?_some hf
        simp only [Bool.and_eq_true, beq_iff_eq] at hp
        refine .inl ⟨i, oi, h1, h2.symm, rget i k hp.1, fun hi => ?_⟩
        cases ho : h0[i]? with
        | none => rw [ho] at hp; simp at hp
        | some oo => rw [ho] at hp; exact ⟨oo, rfl, by simpa using hp.2⟩
      | none =>
        rw [hf] at hk
        refine .inr ⟨c, hk, fun i oi hi ho e => ?_⟩
        rw [List.find?_eq_none] at hf
        have := hf i (List.mem_range.2 (lt_of_get hi))
        apply this
        obtain ⟨j, hj, _⟩ := fit i oi hi
        rw [rget i j hj] at e
        subst e
        simp [hj, hi, ho]
    · rw [if_neg c] at hk
      simp only [Option.map_eq_some_iff] at hk
      obtain ⟨oi, h1, h2⟩ := hk
      refine .inl ⟨_, oi, h1, h2.symm, ?_, fun hi => by omega⟩
      rw [rge _ (by omega)]; omega
  -- an object that the call did not own: its block is as it was
  have kept : ∀ (k : Nat) (o : AObj), h[k]? = some o → o.live = true → (∀ i oi, h0[i]? = some oi → oi.own = true → r i ≠ k) → w'.heap[μ k]? = w.heap[μ k]? := by
    intro k o hk hl hn
    obtain ⟨b, hb, _⟩ := hh.obj k o hk hl
    refine hx.keep (μ k) (hlt hb) ?_
    intro i oi hi ho e
    obtain ⟨oi', a1, a2, _⟩ := getsome i oi hi
    exact hh.sep (r i) k oi' o a1 hk (hn i oi hi ho) (a2 ho) hl e
  have far : ∀ (k : Nat) (o : AObj), h[k]? = some o → (∀ i oi, h0[i]? = some oi → oi.own = true → r i ≠ k) → ∀ (i : Nat) (oi : AObj), h0'[i]? = some oi → oi.live = true → (i < h0.length → ∃ oo, h0[i]? = some oo ∧ oo.own = true) →
      (o.live = true) → μ k ≠ μ' i := by
    intro k o hk hn i oi hi hl hown hol e
    obtain ⟨b, hb, _⟩ := hh.obj k o hk hol
    rcases hx.fresh i oi hi hl with ⟨hil, _⟩ | ⟨_, ⟨j, oj, hj, hoj, hm2⟩ | hf⟩
    · obtain ⟨oo, ho, hoo⟩ := hown hil
      obtain ⟨o', a1, a2, _⟩ := getsome i oo ho
      have ag := (hx.agree i hil).1
      exact hh.sep (r i) k o' o a1 hk (hn i oo ho hoo) (a2 hoo) hol ((e.trans ag).symm)
    · obtain ⟨o', a1, a2, _⟩ := getsome j oj hj
      exact hh.sep (r j) k o' o a1 hk (hn j oj hj hoj) (a2 hoj) hol ((e.trans hm2).symm)
    · have := hlt hb; omega
  have m2lt : ∀ k, k < h.length → μ2 k = μ k ∧ κ2 k = κ k := fun k hk => ⟨if_pos hk, if_pos hk⟩
  refine ⟨μ2, κ2, e0.ren r, splice r h l h0 h0', ⟨e0, h0', q, rfl, rfl⟩, ?_, ⟨?_, ?_, ?_, ?_, ?_⟩, ?_⟩
  · -- the ending
    cases e0 with
    | ret v => exact ⟨by rw [er.1, conc_ren hag2 v er.2], by rw [slen]; exact le_ren rlt2 v er.2⟩
    | panic v => exact ⟨by rw [er.1, conc_ren hag2 v er.2], by rw [slen]; exact le_ren rlt2 v er.2⟩
  · -- objects
    intro k o hk hl
    rcases src k o hk with ⟨i, oi, h1, rfl, rfl, _⟩ | ⟨hkl, h1, hn⟩
    · rw [AObj.ren_live] at hl
      obtain ⟨b, hb, hr1⟩ := hh'.obj i oi h1 hl
      have hil := lt_of_get h1
      rw [(hag2 i hil).1]
      exact ⟨b, hb, objRel_ren hag2 hil (hh'.le i oi h1) hr1⟩
    · obtain ⟨b, hb, hr1⟩ := hh.obj k o h1 hl
      rw [(m2lt k hkl).1, kept k o h1 hl hn]
      exact ⟨b, hb, objRel_congr (m := h.length) (fun i hi => m2lt i hi) hkl (hh.le k o h1) hr1⟩
  · -- apart from one another
    intro k k' o o' hk hk' hne ho hl
    rcases src k o hk with ⟨i, oi, h1, rfl, rfl, own1⟩ | ⟨hkl, h1, hn⟩
    · rw [AObj.ren_own] at ho
      rcases src k' o' hk' with ⟨j, oj, h2, rfl, rfl, own2⟩ | ⟨hkl', h2, hn'⟩
      · rw [AObj.ren_live] at hl
        rw [(hag2 i (lt_of_get h1)).1, (hag2 j (lt_of_get h2)).1]
        exact hh'.sep i j oi oj h1 h2 (fun e => hne (by rw [e])) ho hl
      · rw [(hag2 i (lt_of_get h1)).1, (m2lt k' hkl').1]
        exact Ne.symm (far k' o' h2 hn' i oi h1 (AObj.live_of_own ho) own1 hl)
    · rcases src k' o' hk' with ⟨j, oj, h2, rfl, rfl, own2⟩ | ⟨hkl', h2, hn'⟩
      · rw [AObj.ren_live] at hl
        rw [(hag2 j (lt_of_get h2)).1, (m2lt k hkl).1]
        exact far k o h1 hn j oj h2 hl own2 (AObj.live_of_own ho)
      · rw [(m2lt k hkl).1, (m2lt k' hkl').1]
        exact hh.sep k k' o o' h1 h2 hne ho hl
  · -- numbers
    intro k o hk
    rw [slen]
    rcases src k o hk with ⟨i, oi, h1, rfl, _, _⟩ | ⟨hkl, h1, _⟩
    · exact AObj.ren_le rlt2 (hh'.le i oi h1)
    · exact AObj.le_mono (by omega) (hh.le k o h1)
  · -- variables
    intro g gj gv hg
    obtain ⟨h2, h3⟩ := hh'.glob g gj gv hg
    exact ⟨by rw [h2]; exact congrArg some (conc_congr (n := 0) (fun i hi => absurd hi (Nat.not_lt_zero _)) gv h3), h3⟩
  · intro k o g gj gv hk ho hg
    rcases src k o hk with ⟨i, oi, h1, rfl, rfl, _⟩ | ⟨hkl, h1, _⟩
    · rw [AObj.ren_own] at ho
      rw [(hag2 i (lt_of_get h1)).1]
      exact hh'.apart i oi g gj gv h1 ho hg
    · rw [(m2lt k hkl).1]
      exact hh.apart k o g gj gv h1 ho hg
  · refine ⟨hx.os, hx.tape, hx.output, hx.size, by rw [slen]; omega, m2lt, ?_, ?_⟩
    · intro b hb hn
      refine hx.keep b hb ?_
      intro i oi hi ho e
      obtain ⟨o', a1, a2, _⟩ := getsome i oi hi
      exact hn (r i) o' a1 (a2 ho) e
    · intro k o hk hl
      rcases src k o hk with ⟨i, oi, h1, rfl, rfl, own1⟩ | ⟨hkl, h1, _⟩
      · rw [AObj.ren_live] at hl
        by_cases c : i < h0.length
        · obtain ⟨oo, ho, hoo⟩ := own1 c
          obtain ⟨o', a1, a2, a3⟩ := getsome i oo ho
          exact .inl ⟨rlt i c, o', a1, fun _ => a2 hoo, a3 (AObj.live_of_own hoo)⟩
        · refine .inr ⟨by rw [rge i (by omega)]; omega, ?_⟩
          rw [(hag2 i (lt_of_get h1)).1]
          rcases hx.fresh i oi h1 hl with ⟨hil, _⟩ | ⟨_, ⟨j, oj, hj, hoj, hm2⟩ | hf⟩
          · exact absurd hil c
          · obtain ⟨o', a1, a2, _⟩ := getsome j oj hj
            exact .inl ⟨r j, o', a1, a2 hoj, hm2⟩
          · exact .inr hf
      · exact .inl ⟨hkl, o, h1, fun x => x, hl⟩

theorem RetTo.frame {f : FuncId} {as0 : List AV} {h0 h0' : Heap} {v : AV} (hc : RetTo P G f as0 h0 v h0') (l : List Nat) (hd : distinct l = true) (hfit : allFit (rho l h.length) h l h0) (hcl : ∀ o ∈ h0, AObj.le h0.length o) (hal : AVs.le h0.length as0) :
    RetTo P G f (AVs.ren (rho l h.length) as0) h (v.ren (rho l h.length)) (splice (rho l h.length) h l h0 h0') :=
  (CallTo.frame hc l hd hfit hcl hal).mono (by rintro e q ⟨e0, q0, ⟨rfl, rfl⟩, rfl, rfl⟩; exact ⟨rfl, rfl⟩)
end
end Go.Fm
