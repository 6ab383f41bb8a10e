/- FM, a program logic over the given model with abstract values and an abstract heap: general lemmas. No statement is closed in this text. -/
import Derived.Test.YtcimapbdkmdcpaaGreatDoorFmR
set_option linter.unusedVariables false
set_option linter.unusedSimpArgs false
namespace Go.Fm
open Go

/-! Structs that are compared. -/
def eqFs (Tb : TypeId → Option TInfo) (f : TypeId → AV → AV → Option Bool) : List (Nat × TypeId) → List AV → List AV → Option Bool
  | [], _, _ => some true
  | (off, t) :: r, xs, ys => match Tb t with
    | some i => match loadAV i xs off, loadAV i ys off with
      | some a, some b => match f t a b, eqFs Tb f r xs ys with
        | some p, some q => some (p && q)
        | _, _ => none
      | _, _ => none
    | none => none

def eqV (Tb : TypeId → Option TInfo) (E : TypeId → Bool) : Nat → TypeId → AV → AV → Option Bool
  | 0, _, _, _ => none
  | n + 1, t, x, y => match Tb t with
    | none => none
    | some i => match i.uk, x, y with
      | .int _, .int k a, .int k' b => bif kindEq k k' then some (a == b) else none
      | .str, .str a, .str b => some (a == b)
      | .strct fs, .agg xs, .agg ys => match E t with
        | true => eqFs Tb (eqV Tb E n) fs xs ys
        | false => none
      | u, x, y => eqA u false x y

/-- Types of structs whose comparing is plain. -/
def eqChk (P : Program) (t : TypeId) : Bool := !P.stoodInHeld t && ((P.fieldsOf t).toList.all (fun f => f.name != "_") && !P.eqGuardType P.depth t)
def EqOk (P : Program) (E : TypeId → Bool) : Prop := ∀ t, E t = true → eqChk P t = true

section
variable {P : Program} {Tb : TypeId → Option TInfo} {G : Nat → Nat → Option AV} {μ κ : Nat → Nat} {h : Heap} {N : Nat} {fr : Frame} {a : Act} {w : World} {E : TypeId → Bool}

theorem eqFs_run (hT : TbOk P Tb) {f : TypeId → AV → AV → Option Bool} {d : Nat} (n : Nat) (hf : ∀ t a b r, a.le n → b.le n → f t a b = some r → (Op.equalIn d t (conc μ κ a) (conc μ κ b)).run P w = .ok r w) {xs ys : List AV} (hx : AVs.le n xs) (hy : AVs.le n ys) :
    ∀ {fl : List Field} {r : Bool}, (∀ x ∈ fl, x.name ≠ "_") → eqFs Tb f (fl.map fun x => (x.offset, x.type)) xs ys = some r → (Op.eqFields d (concs μ κ xs).toArray (concs μ κ ys).toArray fl).run P w = .ok r w
  | [], r, _, e => by simp [eqFs] at e; subst e; simp [Op.eqFields]
  | x :: fl, r, hn, e => by
    simp only [List.map_cons, eqFs] at e
    split at e
    · rename_i i hi
      obtain ⟨ti, td, ht⟩ := hT _ i hi
      split at e
      · rename_i a b ha hb
        split at e
        · rename_i p q hp hq
          simp at e; subst e
          have pa := part_sound (P := P) (w := w) (μ := μ) (κ := κ) ht ha n hx
          have pb := part_sound (P := P) (w := w) (μ := μ) (κ := κ) ht hb n hy
          have ih := eqFs_run hT n hf hx hy (fun y hy => hn y (List.mem_cons_of_mem _ hy)) hq
          have hne := hn x (List.mem_cons_self ..)
          simp only [Op.eqFields, hne, ne_eq, not_false_eq_true, if_true, Sem.run_bind, pa.1, pb.1, Result.andThen_ok, hf _ _ _ _ pa.2 pb.2 hp]
          cases p
          · simp
          · simpa using ih
        · simp at e
      · simp at e
    · simp at e

theorem eqV_run (hT : TbOk P Tb) (hE : EqOk P E) : ∀ {n : Nat} {t : TypeId} {x y : AV} {r : Bool} (m k : Nat), x.le k → y.le k → eqV Tb E n t x y = some r → (Op.equalIn (m + n) t (conc μ κ x) (conc μ κ y)).run P w = .ok r w
  | 0, t, x, y, r, m, k, _, _, e => by simp [eqV] at e
  | n + 1, t, x, y, r, m, k, hx, hy, e => by
    rw [← Nat.add_assoc]
    simp only [eqV] at e
    split at e
    · simp at e
    · rename_i i hi
      obtain ⟨ti, d, ht⟩ := hT t i hi
      have hu := ht.uk
      split at e
      · rename_i k1 k2 a k3 b hk
        simp only [hk, ukRel] at hu
        subst hu
        cases hkk : kindEq k2 k3 with
        | false => simp [hkk] at e
        | true =>
          simp [hkk] at e; subst e
          cases kindEq_eq hkk
          simp only [conc]
          exact run_equalIn_int w _ t k2 k1 a b ht.und
      · rename_i a b hk
        simp only [hk, ukRel] at hu
        subst hu
        simp at e; subst e
        simp only [conc]
        rw [run_equalIn_string w _ t _ _ ht.und, ByteArray.toList_eq, ByteArray.toList_eq]
      · rename_i fs xs ys hk
        simp only [hk, ukRel] at hu
        obtain ⟨fl, rfl, hfl⟩ := hu
        split at e
        · rename_i hEt
          have hc := hE t hEt
          simp only [eqChk, Bool.and_eq_true, Bool.not_eq_true'] at hc
          have hfo : P.fieldsOf t = fl := by simp [Program.fieldsOf, ht.und]
          simp only [conc]
          rw [run_equalIn_struct w (m + n) t _ _ (by rw [hfo]; exact ht.und) hc.1, hfo]
          rw [← hfl] at e
          refine eqFs_run hT k (fun t a b r ha hb he => eqV_run hT hE m k ha hb he) hx hy (fun y hy => ?_) e
          have := hc.2.1
          rw [hfo, List.all_eq_true] at this
          simpa using this y hy
        · simp at e
      · exact run_eqAd _ ht e

def negB : BinOp → Bool → Option Bool
  | .eql, b => some b
  | .neq, b => some (!b)
  | _, _ => none

/-- Two structs compared. -/
theorem st_eqS (hT : TbOk P Tb) (hE : EqOk P E) {o : Oper} {op : BinOp} {t u : TypeId} {x y : Operand} {xs ys : List AV} {r c : Bool} (n : Nat) (hn : Nat.ble n 10000 = true) (ho : o.op = .binOp op t x y u) (hx : ev fr x = some (.agg xs)) (hy : ev fr y = some (.agg ys)) (hEt : E t = true)
    (hr : eqV Tb E n t (.agg xs) (.agg ys) = some r) (hc : negB op r = some c) : StepTo P G o fr h (.bool c) h := by
  intro N μ κ a w hh hf
  have e1 := ev_sound hf hx
  have e2 := ev_sound hf hy
  refine ⟨μ, κ, w, ?_, hh, trivial, Ext.refl _ _ _ _⟩
  have hck := hE t hEt
  simp only [eqChk, Bool.and_eq_true, Bool.not_eq_true'] at hck
  have R := eqV_run (P := P) (w := w) (μ := μ) (κ := κ) hT hE (10000 - n) h.length e1.2 e2.2 hr
  have hn := Nat.le_of_ble_eq_true hn
  rw [Nat.sub_add_cancel hn] at R
  simp only [conc] at R
  have g := run_eqGuard_agg (P := P) w op t x y (concs μ κ xs).toArray (concs μ κ ys).toArray hck.2.2
  cases op <;> simp [negB] at hc <;> subst hc
  · simp only [execOp, ho, e1.1, e2.1, conc, Sem.run_bind, g, Result.andThen_ok, run_eql_struct, R]; rfl
  · simp only [execOp, ho, e1.1, e2.1, conc, Sem.run_bind, g, Result.andThen_ok, run_neq_struct, R, Bool.not_not]; first | rfl | simp

/-! The least and the greatest. -/
def mmI (mx : Bool) (x y : Int) : Int := match mx with
  | true => max x y
  | false => min x y
def mmG (mx : Bool) (k : IntKind) : Int → List AV → Option AV
  | x, [] => some (.int k x)
  | x, .int k' y :: t => bif kindEq k k' then mmG mx k (mmI mx x y) t else none
  | _, _ :: _ => none
def mmA (mx : Bool) : List AV → Option AV
  | .int k x :: t => mmG mx k x t
  | _ => none
theorem mmG_le {mx : Bool} {k : IntKind} : ∀ {t : List AV} {x : Int} {v : AV}, mmG mx k x t = some v → v.le 0
  | [], x, v, e => by simp [mmG] at e; subst e; trivial
  | y :: t, x, v, e => by
    unfold mmG at e
    split at e
    · rename_i he; simp at he
    · rename_i k' b t' he
      simp at he; obtain ⟨rfl, rfl⟩ := he
      cases hk : kindEq k k' with
      | false => simp [hk] at e
      | true => simp only [hk, cond_true] at e; exact mmG_le e
    · simp at e
theorem mmA_le {mx : Bool} {l : List AV} {v : AV} (e : mmA mx l = some v) : v.le 0 := by
  unfold mmA at e
  split at e
  · exact mmG_le e
  · simp at e
theorem mmG_max {k : IntKind} : ∀ {t : List AV} {x : Int} {v : AV}, mmG true k x t = some v → ((concs μ κ t).foldlM Builtin.max2 (.int k x)).run P w = .ok (conc μ κ v) w
  | [], x, v, e => by simp [mmG] at e; subst e; simp [concs, conc]
  | y :: t, x, v, e => by
    cases y with
    | int k' b =>
      simp only [mmG] at e
      cases hk : kindEq k k' with
      | false => simp [hk] at e
      | true =>
        simp only [hk, cond_true] at e
        have ih := mmG_max e
        have hmm : mmI true x b = if b > x then b else x := by simp only [mmI]; split <;> omega
        rw [hmm] at ih
        simp only [concs, conc, List.foldlM_cons, Builtin.max2, Sem.run_bind, Sem.run_pure, Result.andThen_ok]
        exact ih
    | _ => simp [mmG] at e
theorem mmG_min {k : IntKind} : ∀ {t : List AV} {x : Int} {v : AV}, mmG false k x t = some v → ((concs μ κ t).foldlM Builtin.min2 (.int k x)).run P w = .ok (conc μ κ v) w
  | [], x, v, e => by simp [mmG] at e; subst e; simp [concs, conc]
  | y :: t, x, v, e => by
    cases y with
    | int k' b =>
      simp only [mmG] at e
      cases hk : kindEq k k' with
      | false => simp [hk] at e
      | true =>
        simp only [hk, cond_true] at e
        have ih := mmG_min e
        have hmm : mmI false x b = if b < x then b else x := by simp only [mmI]; split <;> omega
        rw [hmm] at ih
        simp only [concs, conc, List.foldlM_cons, Builtin.min2, Sem.run_bind, Sem.run_pure, Result.andThen_ok]
        exact ih
    | _ => simp [mmG] at e
theorem mmA_max {l : List AV} {v : AV} (e : mmA true l = some v) (ts : Array TypeId) (ty : TypeId) : (Builtin.max_ ts ty (concs μ κ l).toArray).run P w = .ok (conc μ κ v) w := by
  unfold mmA at e
  split at e
  · simpa [Builtin.max_, concs, conc] using mmG_max (P := P) (w := w) (μ := μ) (κ := κ) e
  · simp at e
theorem mmA_min {l : List AV} {v : AV} (e : mmA false l = some v) (ts : Array TypeId) (ty : TypeId) : (Builtin.min_ ts ty (concs μ κ l).toArray).run P w = .ok (conc μ κ v) w := by
  unfold mmA at e
  split at e
  · simpa [Builtin.min_, concs, conc] using mmG_min (P := P) (w := w) (μ := μ) (κ := κ) e
  · simp at e

theorem st_max {o : Oper} {args : Array Operand} {ts : Array TypeId} {vs : List AV} {v : AV} (ho : o.op = .call { callee := .builtin .max, args := args, argTypes := ts }) (hx : evs fr args.toList = some vs) (hv : mmA true vs = some v) : StepTo P G o fr h v h := by
  intro N μ κ a w hh hf
  have e := evs_sound hf hx
  refine ⟨μ, κ, w, ?_, hh, AV.le_mono (Nat.zero_le _) _ (mmA_le hv), Ext.refl _ _ _ _⟩
  have e3 : args.map a.eval = (concs μ κ vs).toArray := by apply Array.ext'; simp [e.1]
  have R' := mmA_max (P := P) (w := w) (μ := μ) (κ := κ) hv ts o.type
  simp only [execOp, ho, resolve, invoke, builtin, e3, Sem.run_bind, Sem.run_pure, Result.andThen_ok]
  rw [R']; rfl
theorem st_min {o : Oper} {args : Array Operand} {ts : Array TypeId} {vs : List AV} {v : AV} (ho : o.op = .call { callee := .builtin .min, args := args, argTypes := ts }) (hx : evs fr args.toList = some vs) (hv : mmA false vs = some v) : StepTo P G o fr h v h := by
  intro N μ κ a w hh hf
  have e := evs_sound hf hx
  refine ⟨μ, κ, w, ?_, hh, AV.le_mono (Nat.zero_le _) _ (mmA_le hv), Ext.refl _ _ _ _⟩
  have e3 : args.map a.eval = (concs μ κ vs).toArray := by apply Array.ext'; simp [e.1]
  have R' := mmA_min (P := P) (w := w) (μ := μ) (κ := κ) hv ts o.type
  simp only [execOp, ho, resolve, invoke, builtin, e3, Sem.run_bind, Sem.run_pure, Result.andThen_ok]
  rw [R']; rfl

/-! Slices of an open object. -/
theorem opn_cap (hh : HRel P G μ κ h w) (hT : TbOk P Tb) {id len : Nat} {cs : List AV} {e : TypeId} {ei : TInfo} {wr : Bool} (hob : nth h id = some (.cells cs e true wr)) (hei : Tb e = some ei) (hes : Nat.blt 0 ei.size = true) (hl : len * ei.size ≤ cs.length) : len ≤ κ id := by
  rw [nth_eq] at hob
  obtain ⟨bo, hb, c, fz, extra, rfl, e2, e3, e4, e5⟩ := hh.obj id _ hob rfl
  obtain ⟨_, de, hte⟩ := hT e ei hei
  have hc := e4 rfl
  rw [hte.cells] at hc
  have : cs.length ≤ c.size := by rw [← Array.length_toList, e2]; simp [concs_length]
  have hes : 0 < ei.size := by simpa [Nat.blt_eq] using hes
  rw [hc] at this
  exact Nat.le_of_mul_le_mul_right (Nat.le_trans hl this) hes

theorem st_slice_opn (hT : TbOk P Tb) {o : Oper} {t e : TypeId} {x : Operand} {lo hi : Option Operand} {i ei : TInfo} {id len : Nat} {l u : Int} {cs : List AV} {wr : Bool} (ho : o.op = .slice t x lo hi none) (hti : Tb t = some i) (hk : i.uk = .slc e) (hei : Tb e = some ei)
    (hx : ev fr x = some (.slc id 0 len (.opn 0 0))) (hob : nth h id = some (.cells cs e true wr)) (hes : Nat.blt 0 ei.size = true) (hl : boundOf fr lo 0 = some l) (hu : boundOf fr hi len = some u) (hb : 0 ≤ l ∧ l ≤ u) (hlen : u.toNat * ei.size ≤ cs.length) :
    StepTo P G o fr h (.slc id (l.toNat * ei.size) (u.toNat - l.toNat) (.opn l.toNat 0)) h := by
  intro N μ κ a w hh hf
  obtain ⟨ti, d, ht⟩ := hT t i hti
  obtain ⟨_, de, hte⟩ := hT e ei hei
  have huk := ht.uk
  simp only [hk, ukRel] at huk
  subst huk
  have e1 := ev_sound hf hx
  refine ⟨μ, κ, w, ?_, hh, e1.2, Ext.refl _ _ _ _⟩
  have hcap := opn_cap hh hT hob hei hes hlen
  have br := bounds_run (P := P) (w := w) (mx := none) (m := (κ id : Int)) (cap := κ id) true hf hl hu rfl hb.1 hb.2 (by omega) (Int.le_refl _) (fun _ => rfl)
  have key : (Instr.sliceAt t (.slice (some ⟨μ id, 0, none⟩) len (κ id)) (lo.map a.eval) (hi.map a.eval) none).run P w = .ok (.slice (some ⟨μ id, if κ id = l.toNat then 0 else l.toNat * ei.size, none⟩) (u.toNat - l.toNat) (κ id - l.toNat)) w := by
    have br' : (Instr.sliceBounds true len (κ id) (lo.map a.eval) (hi.map a.eval) none).run P w = .ok (l.toNat, u.toNat, κ id) w := by simpa using br
    simp only [Instr.sliceAt, Sem.run_bind, ht.run_underlying, Result.andThen_ok, Instr.slice, br', hte.run_size, Sem.run_pure]
    by_cases q : κ id = l.toNat
    · rw [if_pos q, if_pos (by omega)]
    · rw [if_neg q, if_neg (by omega)]; simp [Addr.add_lit]
  simp only [execOp, ho, e1.1, Sem.run_bind, conc, Option.map_none, ite_self, Nat.sub_zero]
  rw [key]; rfl

theorem st_slice_opn3 (hT : TbOk P Tb) {o : Oper} {t e : TypeId} {x y : Operand} {lo hi : Option Operand} {i ei : TInfo} {id len : Nat} {l u m : Int} {cs : List AV} {wr : Bool} (off' : Nat) (ho : o.op = .slice t x lo hi (some y)) (hti : Tb t = some i) (hk : i.uk = .slc e) (hei : Tb e = some ei)
    (hx : ev fr x = some (.slc id 0 len (.opn 0 0))) (hob : nth h id = some (.cells cs e true wr)) (hes : Nat.blt 0 ei.size = true) (hl : boundOf fr lo 0 = some l) (hu : boundOf fr hi len = some u) (hm : boundOf fr (some y) 0 = some m) (hxx : hmOk hi (some y) = true) (hb : 0 ≤ l ∧ l ≤ u ∧ u ≤ m) (hlen : m.toNat * ei.size ≤ cs.length)
    (hoff : (l = m ∧ off' = 0) ∨ (l < m ∧ off' = l.toNat * ei.size)) :
    StepTo P G o fr h (.slc id off' (u.toNat - l.toNat) (.exact (m.toNat - l.toNat))) h := by
  intro N μ κ a w hh hf
  obtain ⟨ti, d, ht⟩ := hT t i hti
  obtain ⟨_, de, hte⟩ := hT e ei hei
  have huk := ht.uk
  simp only [hk, ukRel] at huk
  subst huk
  have e1 := ev_sound hf hx
  refine ⟨μ, κ, w, ?_, hh, e1.2, Ext.refl _ _ _ _⟩
  have hcap := opn_cap hh hT hob hei hes hlen
  have hm' : boundOf fr (some y) (κ id) = some m := by
    unfold boundOf at hm ⊢; exact hm
  have br := bounds_run (P := P) (w := w) (cap := κ id) true hf hl hu hm' hb.1 hb.2.1 hb.2.2 (by omega) (by
    intro e2; subst e2; simp [hmOk] at hxx)
  have key : (Instr.sliceAt t (.slice (some ⟨μ id, 0, none⟩) len (κ id)) (lo.map a.eval) (hi.map a.eval) ((some y).map a.eval)).run P w = .ok (.slice (some ⟨μ id, off', none⟩) (u.toNat - l.toNat) (m.toNat - l.toNat)) w := by
    simp only [Instr.sliceAt, Sem.run_bind, ht.run_underlying, Result.andThen_ok, Instr.slice, br, hte.run_size, Sem.run_pure]
    rcases hoff with ⟨q1, rfl⟩ | ⟨q1, rfl⟩
    · rw [if_pos (by omega)]
    · rw [if_neg (by omega)]; simp [Addr.add_lit]
  simp only [execOp, ho, e1.1, Sem.run_bind, conc, ite_self, Nat.sub_zero]
  rw [key]; rfl
end
end Go.Fm
