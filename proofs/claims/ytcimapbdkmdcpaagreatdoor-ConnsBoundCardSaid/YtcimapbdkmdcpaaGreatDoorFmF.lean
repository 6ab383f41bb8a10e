/- FM, a program logic over the given model with abstract values and an abstract heap: general lemmas. No statement is closed in this text. -/
import Derived.Test.YtcimapbdkmdcpaaGreatDoorFmE
set_option linter.unusedVariables false
set_option linter.unusedSimpArgs false
namespace Go.Fm
open Go

section
variable (P : Program) (G : Nat → Nat → Option AV)

def opsWP (N n : Nat) (all : Array Oper) (l : List Oper) (Q : AExit → Frame → Heap → Prop) (fr : Frame) (h : Heap) : Prop :=
  ∀ (L : List Nat), L.map (fun i => all[i]?) = l.map some → ∀ μ₀ κ₀ h₀ w₀ μ κ a w, List.length (α := AObj) h₀ = n → Ext μ₀ κ₀ μ κ h₀ h w₀ w → HRel P G μ κ h w → FRel N μ κ fr h.length a →
    wpOps P all (Post P G N μ₀ κ₀ h₀ w₀ Q) L a w

/-- The first operation, whatever its guard says. -/
def opsGo (N n : Nat) (all : Array Oper) (o : Oper) (l : List Oper) (Q : AExit → Frame → Heap → Prop) (fr : Frame) (h : Heap) : Prop :=
  ∀ (L : List Nat), L.map (fun i => all[i]?) = l.map some → ∀ μ₀ κ₀ h₀ w₀ μ κ a w, List.length (α := AObj) h₀ = n → Ext μ₀ κ₀ μ κ h₀ h w₀ w → HRel P G μ κ h w → FRel N μ κ fr h.length a →
    o.wp P a w (wpOps P all (Post P G N μ₀ κ₀ h₀ w₀ Q) L) (Post P G N μ₀ κ₀ h₀ w₀ Q)

/-- One operation comes to a value. -/
def StepTo (o : Oper) (fr : Frame) (h : Heap) (v : AV) (h' : Heap) : Prop :=
  ∀ N μ κ a w, HRel P G μ κ h w → FRel N μ κ fr h.length a →
    ∃ μ' κ' w', (execOp a.eval o).run P w = .ok (.value (conc μ' κ' v)) w' ∧ HRel P G μ' κ' h' w' ∧ v.le h'.length ∧ Ext μ κ μ' κ' h h' w w'

/-- One operation changes memory and comes to nothing. -/
def StoreTo (o : Oper) (fr : Frame) (h : Heap) (h' : Heap) : Prop :=
  ∀ N μ κ a w, HRel P G μ κ h w → FRel N μ κ fr h.length a →
    ∃ μ' κ' w', (execOp a.eval o).run P w = .ok .skip w' ∧ HRel P G μ' κ' h' w' ∧ Ext μ κ μ' κ' h h' w w'
end

section
variable {P : Program} {Tb : TypeId → Option TInfo} {G : Nat → Nat → Option AV} {N n : Nat} {all : Array Oper} {rest : List Oper} {Q : AExit → Frame → Heap → Prop} {fr : Frame} {h : Heap}

theorem f_region {id : Nat} (k : opsWP P G N n all all.toList Q fr h) : WP P G N n (.region id all false) Q fr h := by
  intro μ₀ κ₀ h₀ w₀ μ κ a w hn hx hh hf
  refine Go.wp_region (k (List.range all.size) ?_ μ₀ κ₀ h₀ w₀ μ κ a w hn hx hh hf)
  apply List.ext_getElem?
  intro i
  by_cases hi : i < all.size
  · simp [hi]
  · simp [hi, Nat.le_of_not_lt hi]

theorem ops_nil (q : Q .normal fr h) : opsWP P G N n all [] Q fr h := by
  intro L hL μ₀ κ₀ h₀ w₀ μ κ a w hn hx hh hf
  simp at hL; subst hL
  exact ⟨μ, κ, .normal, fr, h, q, rfl, hh, hf, hx⟩

theorem cons_split {L : List Nat} {o : Oper} {l : List Oper} (hL : L.map (fun i => all[i]?) = (o :: l).map some) : ∃ i R, L = i :: R ∧ all[i]? = some o ∧ R.map (fun i => all[i]?) = l.map some := by
  cases L with
  | nil => simp at hL
  | cons i R => simp at hL; exact ⟨i, R, rfl, hL.1, by simpa using hL.2⟩

theorem s_step {o : Oper} {v : AV} {h' : Heap} (hd : okD N o.dst = true) (hs : StepTo P G o fr h v h') (k : opsWP P G N n all rest Q (put fr o.dst v) h') :
    opsGo P G N n all o rest Q fr h := by
  intro R hR μ₀ κ₀ h₀ w₀ μ κ a w hn hx hh hf
  obtain ⟨μ', κ', w', hr, hh', hv, hx'⟩ := hs N μ κ a w hh hf
  simp only [Oper.wp, hr, Oper.upon]
  exact k R hR μ₀ κ₀ h₀ w₀ μ' κ' _ w' hn (hx.trans hx') hh' ((hf.world hx'.agree hx'.len).put hd hv)

theorem s_store {o : Oper} {h' : Heap} (hd : o.dst = none) (hs : StoreTo P G o fr h h') (k : opsWP P G N n all rest Q fr h') :
    opsGo P G N n all o rest Q fr h := by
  intro R hR μ₀ κ₀ h₀ w₀ μ κ a w hn hx hh hf
  obtain ⟨μ', κ', w', hr, hh', hx'⟩ := hs N μ κ a w hh hf
  simp only [Oper.wp, hr, Oper.upon, hd, Act.put]
  exact k R hR μ₀ κ₀ h₀ w₀ μ' κ' _ w' hn (hx.trans hx') hh' (hf.world hx'.agree hx'.len)

def gdst (all : Array Oper) (j : Nat) : Option Nat := match nth all.toList j with
  | some o => o.dst
  | none => none

theorem guard_yield {a : Act} {μ κ : Nat → Nat} {m : Nat} (hf : FRel N μ κ fr m a) {j d : Nat} {b : Bool} (hj : gdst all j = some d) (hb : get fr d = some (.bool b)) (hd : Nat.blt d N = true) : yielded all a.tmps j = some b := by
  have hdN : d < N := by simpa [Nat.blt_eq] using hd
  have hne : d ≠ dslot := by have := hf.small; omega
  have e : (all[j]?).bind (·.dst) = some d := by
    unfold gdst at hj
    rw [nth_eq] at hj
    cases ho : all[j]? with
    | none => simp [ho] at hj
    | some o => simp [ho] at hj; simp [hj]
  have := (hf.slot d _ hb hne).1
  simp [yielded, e, this, conc]

theorem ops_n {o : Oper} (hg : o.guard = none) (k : opsGo P G N n all o rest Q fr h) : opsWP P G N n all (o :: rest) Q fr h := by
  intro L hL μ₀ κ₀ h₀ w₀ μ κ a w hn hx hh hf
  obtain ⟨i, R, rfl, hi, hR⟩ := cons_split hL
  simp only [wpOps, hi, Region.wanted, hg, if_true]
  exact .inl (k R hR μ₀ κ₀ h₀ w₀ μ κ a w hn hx hh hf)

theorem ops_g {o : Oper} {j d : Nat} {want b : Bool} (hg : o.guard = some (j, want)) (hj : gdst all j = some d) (hb : get fr d = some (.bool b)) (hd : Nat.blt d N = true) (hn0 : ∀ d, o.dst = some d → get fr d = none)
    (k1 : b = want → opsGo P G N n all o rest Q fr h) (k2 : b = !want → opsWP P G N n all rest Q fr h) : opsWP P G N n all (o :: rest) Q fr h := by
  intro L hL μ₀ κ₀ h₀ w₀ μ κ a w hn hx hh hf
  obtain ⟨i, R, rfl, hi, hR⟩ := cons_split hL
  have hy := guard_yield hf hj hb hd
  by_cases hw : b = want
  · subst hw
    have : Region.wanted o (yielded all a.tmps) = true := by simp [Region.wanted, hg, hy]
    simp only [wpOps, hi, this, if_true]
    exact .inl (k1 rfl R hR μ₀ κ₀ h₀ w₀ μ κ a w hn hx hh hf)
  · have : Region.wanted o (yielded all a.tmps) = false := by simp [Region.wanted, hg, hy, hw]
    simp only [wpOps, hi, this, if_false, Bool.false_eq_true]
    exact k2 (by cases b <;> cases want <;> simp_all) R hR μ₀ κ₀ h₀ w₀ μ κ _ w hn hx hh (hf.junk hn0 _)

theorem ops_g1 {o : Oper} {j d : Nat} {want : Bool} (hg : o.guard = some (j, want)) (hj : gdst all j = some d) (hb : get fr d = some (.bool want)) (hd : Nat.blt d N = true)
    (k : opsGo P G N n all o rest Q fr h) : opsWP P G N n all (o :: rest) Q fr h := by
  intro L hL μ₀ κ₀ h₀ w₀ μ κ a w hn hx hh hf
  obtain ⟨i, R, rfl, hi, hR⟩ := cons_split hL
  have hy := guard_yield hf hj hb hd
  have : Region.wanted o (yielded all a.tmps) = true := by simp [Region.wanted, hg, hy]
  simp only [wpOps, hi, this, if_true]
  exact .inl (k R hR μ₀ κ₀ h₀ w₀ μ κ a w hn hx hh hf)

theorem ops_g0 {o : Oper} {j d : Nat} {want b : Bool} (hg : o.guard = some (j, want)) (hj : gdst all j = some d) (hb : get fr d = some (.bool b)) (hd : Nat.blt d N = true) (hw : (b == want) = false) (hn0 : (match o.dst with | some d => get fr d | none => none) = none)
    (k : opsWP P G N n all rest Q fr h) : opsWP P G N n all (o :: rest) Q fr h :=
  ops_g hg hj hb hd (fun d e => by rw [e] at hn0; exact hn0) (fun e => by subst e; simp at hw) (fun _ => k)

theorem s_pure {o : Oper} {v : AV} (hT : TbOk P Tb) (hd : okD N o.dst = true) (hv : pureOp Tb G fr h o.op = some v) (k : opsWP P G N n all rest Q (put fr o.dst v) h) : opsGo P G N n all o rest Q fr h :=
  s_step hd (fun _ μ κ _ w hh hf => have r := pureOp_sound hT hh hf rfl hv; ⟨μ, κ, w, r.1, hh, r.2, Ext.refl _ _ _ _⟩) k

/-! Calls. -/
def FnOk (P : Program) (f : FuncId) : Prop := ∃ fn, P.funcs[f]? = some fn ∧ (fn.name == "runtime.NumGoroutine") = false ∧ fn.body.isNone = false

def calleeOf (fr : Frame) (c : Call) : Option (FuncId × List AV) :=
  match c.callee with
  | .value f => match ev fr f, evs fr c.args.toList with
    | some (.fn (.func fid) first captured), some as => some (fid, first ++ as ++ captured)
    | _, _ => none
  | _ => none

theorem callee_run {μ κ : Nat → Nat} {w : World} {a : Act} {c : Call} {f : FuncId} {as : List AV} (hf : FRel N μ κ fr h.length a) (hc : calleeOf fr c = some (f, as)) (hk : FnOk P f) {o : Oper} (ho : o.op = .call c) :
    (execOp a.eval o).run P w = .ok (.enter f (concs μ κ as).toArray) w ∧ AVs.le h.length as := by
  unfold calleeOf at hc
  split at hc
  · rename_i g hg
    split at hc
    · rename_i fid first captured as' hgv hasv
      simp at hc; obtain ⟨rfl, rfl⟩ := hc
      have e1 := ev_sound hf hgv
      have e2 := evs_sound hf hasv
      obtain ⟨fn, q1, q2, q3⟩ := hk
      have e3 : c.args.map a.eval = (concs μ κ as').toArray := by apply Array.ext'; simp [e2.1]
      refine ⟨?_, ?_⟩
      · have q2' : ¬ fn.name = "runtime.NumGoroutine" := by simpa using q2
        have q3' : ¬ fn.body = none := by intro e; simp [e] at q3
        simp [execOp, ho, resolve, hg, e1.1, e3, conc, Deferred.ofValue, invoke, callFunc, q1, q2', q3', concs_append]
      · have l1 : AVs.le h.length first ∧ AVs.le h.length captured := e1.2
        have l2 := e2.2
        rw [AVs.le_iff] at *
        intro v hv
        have hv' : v ∈ first ∨ v ∈ as' ∨ v ∈ captured := by simpa [or_assoc] using hv
        rcases hv' with x | x | x
        · exact l1.1 v x
        · exact l2 v x
        · have := l1.2; rw [AVs.le_iff] at this; exact this v x
    · simp at hc
  · simp at hc

def afterCall (P : Program) (G : Nat → Nat → Option AV) (N n : Nat) (all : Array Oper) (o : Oper) (rest : List Oper) (Q : AExit → Frame → Heap → Prop) (fr : Frame) : AEnd → Heap → Prop
  | .ret v, h' => opsWP P G N n all rest Q (put fr o.dst v) h'
  | .panic v, h' => Q (.panic v) fr h'

theorem s_call {o : Oper} {c : Call} {f : FuncId} {as : List AV} {R : AEnd → Heap → Prop} (ho : o.op = .call c) (hd : okD N o.dst = true) (hc : calleeOf fr c = some (f, as)) (hk : FnOk P f) (hs : CallTo P G f as h R)
    (k : ∀ e h', R e h' → afterCall P G N n all o rest Q fr e h') : opsGo P G N n all o rest Q fr h := by
  intro L hL μ₀ κ₀ h₀ w₀ μ κ a w hn hx hh hf
  have r := callee_run (P := P) (w := w) hf hc hk ho
  simp only [Oper.wp, r.1, Oper.upon]
  refine (hs μ κ w hh r.2).mono ?_
  rintro e w' ⟨μ', κ', e', h', q, er, hh', hx'⟩
  have kk := k e' h' q
  cases e' with
  | ret v =>
    obtain ⟨rfl, hv⟩ := er
    exact kk L hL μ₀ κ₀ h₀ w₀ μ' κ' _ w' hn (hx.trans hx') hh' ((hf.world hx'.agree hx'.len).put hd hv)
  | panic v =>
    obtain ⟨rfl, hv⟩ := er
    exact ⟨μ', κ', .panic v, fr, h', kk, ⟨rfl, hv⟩, hh', hf.world hx'.agree hx'.len, hx.trans hx'⟩

/-- A call that comes to one value. -/
def RetTo (P : Program) (G : Nat → Nat → Option AV) (f : FuncId) (as : List AV) (h : Heap) (v : AV) (h' : Heap) : Prop := CallTo P G f as h (fun e q => e = .ret v ∧ q = h')

theorem s_ret {o : Oper} {c : Call} {f : FuncId} {as : List AV} {v : AV} {h' : Heap} (ho : o.op = .call c) (hd : okD N o.dst = true) (hc : calleeOf fr c = some (f, as)) (hk : FnOk P f) (hs : RetTo P G f as h v h')
    (k : opsWP P G N n all rest Q (put fr o.dst v) h') : opsGo P G N n all o rest Q fr h :=
  s_call ho hd hc hk hs (by rintro e q ⟨rfl, rfl⟩; exact k)

/-! A function's body. -/
def initF : Nat → List AV → Frame
  | _, [] => []
  | i, v :: t => (i, v) :: initF (i + 1) t

theorem get_initF : ∀ (l : List AV) (i j : Nat), get (initF i l) j = if i ≤ j then l[j - i]? else none
  | [], i, j => by simp [initF, get]
  | v :: t, i, j => by
    simp only [initF, get]
    by_cases e : i = j
    · subst e; simp
    · rw [beq_false_of_ne e, cond_false, get_initF t (i + 1) j]
      by_cases hl : i ≤ j
      · rw [if_pos (by omega), if_pos hl]
        have : j - i = (j - (i + 1)) + 1 := by omega
        rw [this, List.getElem?_cons_succ]
      · rw [if_neg (by omega), if_neg hl]

/-- What a frame hands back. -/
def resOf (Tb : TypeId → Option TInfo) (G : Nat → Nat → Option AV) (h : Heap) (fr : Frame) : ResultVar → Option AV
  | .tmp t => ev fr (.tmp t)
  | .cell p t => match ev fr (.tmp p), Tb t with
    | some pv, some i => match cellsAt h pv with
      | some (cs, off) => loadAV i cs off
      | none => none
    | _, _ => none

def resOfs (Tb : TypeId → Option TInfo) (G : Nat → Nat → Option AV) (h : Heap) (fr : Frame) : List ResultVar → Option (List AV)
  | [] => some []
  | r :: t => match resOf Tb G h fr r, resOfs Tb G h fr t with
    | some v, some l => some (v :: l)
    | _, _ => none

def resV (Tb : TypeId → Option TInfo) (G : Nat → Nat → Option AV) (rs : List ResultVar) (fr : Frame) (h : Heap) : Option AV :=
  match resOfs Tb G h fr rs with
  | some [v] => some v
  | some vs => some (.tup vs)
  | none => none

def resM (tmps : Array Value) : ResultVar → Sem Value
  | .tmp t => pure (tmps.getD t undef)
  | .cell a t => do loadVar t (← asAddr (tmps.getD a undef))

theorem results_eq (fn : Func) (tmps : Array Value) : results fn tmps = (do let vs ← fn.results.mapM (resM tmps); pure (if h : vs.size = 1 then vs[0] else .tuple vs)) := by
  unfold results
  congr 2

theorem resOf_sound (hT : TbOk P Tb) {μ κ : Nat → Nat} {w : World} {a : Act} (hh : HRel P G μ κ h w) (hf : FRel N μ κ fr h.length a) {r : ResultVar} {v : AV} (hv : resOf Tb G h fr r = some v) :
    (resM a.tmps r).run P w = .ok (conc μ κ v) w ∧ v.le h.length := by
  cases r with
  | tmp t => have := ev_sound (x := .tmp t) hf hv; exact ⟨by simpa [resM, Act.eval] using this.1, this.2⟩
  | cell p t =>
    simp only [resOf] at hv
    split at hv
    · rename_i pv i hp hi
      obtain ⟨ti, d, ht⟩ := hT t i hi
      split at hv
      · rename_i cs off hc
        obtain ⟨b, e1, e2, e3⟩ := cellsAt_sound hh hc
        have e := (ev_sound hf hp).1
        have := run_loadAV ht (off := off) e2 hv _ e3
        simp only [Act.eval] at e
        exact ⟨by simp only [resM, e, e1, asAddr, Sem.run_bind, Sem.run_pure, Result.andThen_ok, this.1], this.2⟩
      · simp at hv
    · simp at hv

theorem mapM_run (tmps : Array Value) (w : World) : ∀ {l : List ResultVar} {vs : List Value}, (∀ (i : Nat) (r : ResultVar), l[i]? = some r → ∃ v, vs[i]? = some v ∧ (resM tmps r).run P w = .ok v w) → l.length = vs.length → (l.mapM (resM tmps)).run P w = .ok vs w
  | [], vs, _, hl => by
    have : vs = [] := by simpa using hl.symm
    subst this; rfl
  | r :: t, vs, hq, hl => by
    cases vs with
    | nil => simp at hl
    | cons v vt =>
      obtain ⟨v', h1, h2⟩ := hq 0 r rfl
      simp at h1; subst h1
      have ih := mapM_run tmps w (l := t) (vs := vt) (fun i r hr => by simpa using hq (i + 1) r (by simpa using hr)) (by simpa using hl)
      simp only [List.mapM_cons, Sem.run_bind, h2, Result.andThen_ok, ih]; rfl

theorem resOfs_sound (hT : TbOk P Tb) {μ κ : Nat → Nat} {w : World} {a : Act} (hh : HRel P G μ κ h w) (hf : FRel N μ κ fr h.length a) : ∀ {l : List ResultVar} {vs : List AV}, resOfs Tb G h fr l = some vs →
    (∀ (i : Nat) (r : ResultVar), l[i]? = some r → ∃ v, (concs μ κ vs)[i]? = some v ∧ (resM a.tmps r).run P w = .ok v w) ∧ l.length = vs.length ∧ AVs.le h.length vs
  | [], vs, e => by simp [resOfs] at e; subst e; exact ⟨fun i r hr => by simp at hr, rfl, trivial⟩
  | r :: t, vs, e => by
    simp only [resOfs] at e
    cases hr : resOf Tb G h fr r with
    | none => simp [hr] at e
    | some v =>
      cases ht : resOfs Tb G h fr t with
      | none => simp [hr, ht] at e
      | some l =>
        simp [hr, ht] at e; subst e
        have p := resOf_sound hT hh hf hr
        have q := resOfs_sound hT hh hf ht
        refine ⟨fun i r' hi => ?_, by simp [q.2.1], p.2, q.2.2⟩
        cases i with
        | zero => simp at hi; subst hi; exact ⟨conc μ κ v, rfl, p.1⟩
        | succ i => simpa [concs] using q.1 i r' (by simpa using hi)

theorem resV_sound (hT : TbOk P Tb) {μ κ : Nat → Nat} {w : World} {a : Act} (hh : HRel P G μ κ h w) (hf : FRel N μ κ fr h.length a) {fn : Func} {v : AV} (hv : resV Tb G fn.results.toList fr h = some v) :
    (results fn a.tmps).run P w = .ok (conc μ κ v) w ∧ v.le h.length := by
  unfold resV at hv
  have main : ∀ vs, resOfs Tb G h fr fn.results.toList = some vs → (results fn a.tmps).run P w = .ok (if hs : (concs μ κ vs).toArray.size = 1 then (concs μ κ vs).toArray[0] else .tuple (concs μ κ vs).toArray) w ∧ AVs.le h.length vs := by
    intro vs hvs
    have q := resOfs_sound hT hh hf hvs
    have m := mapM_run (P := P) a.tmps w (l := fn.results.toList) (vs := concs μ κ vs) q.1 (by rw [concs_length]; exact q.2.1)
    refine ⟨?_, q.2.2⟩
    rw [results_eq]
    have e : (fn.results.mapM (resM a.tmps)).run P w = .ok (concs μ κ vs).toArray w := by
      rw [Array.mapM_eq_mapM_toList]
      simp only [Sem.run_map, m, Result.andThen_ok]
    rw [Sem.run_bind, e]
    rfl
  split at hv
  · rename_i x hx
    simp at hv; subst hv
    have := main _ hx
    exact ⟨by rw [this.1]; simp [concs], this.2.1⟩
  · rename_i vs hne hx
    simp at hv; subst hv
    have := main _ hx
    refine ⟨?_, this.2⟩
    rw [this.1]
    have : ¬ (concs μ κ vs).toArray.size = 1 := by
      intro hs
      simp [concs_length] at hs
      match vs, hs with
      | [x], _ => exact hne x rfl
    rw [dif_neg this]; rfl
  · simp at hv

/-- What a body must come to. -/
def bodyQ (Tb : TypeId → Option TInfo) (G : Nat → Nat → Option AV) (rs : List ResultVar) (R : AEnd → Heap → Prop) : AExit → Frame → Heap → Prop
  | .normal, fr, h => get fr dslot = none ∧ ∃ v, resV Tb G rs fr h = some v ∧ R (.ret v) h
  | .ret, fr, h => get fr dslot = none ∧ ∃ v, resV Tb G rs fr h = some v ∧ R (.ret v) h
  | .panic v, fr, h => get fr dslot = none ∧ R (.panic v) h
  | .exit _, _, _ => False

theorem call_body0 (hT : TbOk P Tb) {f : FuncId} {fn : Func} {c : Code} {as : List AV} {R : AEnd → Heap → Prop} (hf : P.funcs[f]? = some fn) (hb : fn.body = some c) (hN : Nat.ble as.length fn.ntmps = true) (hS : Nat.ble fn.ntmps dslot = true)
    (k : WP P G fn.ntmps h.length c (bodyQ Tb G fn.results.toList R) (initF 0 as) h) : CallTo P G f as h R := by
  intro μ κ w hh hl
  have hN := Nat.le_of_ble_eq_true hN
  have hS := Nat.le_of_ble_eq_true hS
  have hfr : FRel fn.ntmps μ κ (initF 0 as) h.length { tmps := (concs μ κ as).toArray ++ Array.replicate (fn.ntmps - (concs μ κ as).toArray.size) undef, defers := [] } := by
    have hd0 : get (initF 0 as) dslot = none := by
      rw [get_initF, if_pos (Nat.zero_le _), Nat.sub_zero, List.getElem?_eq_none (by omega)]
    refine ⟨by simp [concs_length]; omega, hS, by simp [defersOf, hd0], by simp [defersOf, hd0, AVs.le], ?_⟩
    intro i v hv hi
    rw [get_initF, if_pos (Nat.zero_le _), Nat.sub_zero] at hv
    have hlt := lt_of_get hv
    refine ⟨?_, ?_⟩
    · rw [Array.getElem?_append_left (by simpa [concs_length] using hlt)]
      simp [concs_get, hv]
    · rw [AVs.le_iff] at hl; exact hl v (List.mem_of_getElem? hv)
  refine calls_of_wp hf hb (Go.wp_mono (k μ κ h w μ κ _ w rfl (Ext.refl _ _ _ _) hh hfr) ?_)
  rintro e a' w' ⟨μ', κ', e', fr', h', q, er, hh', hf', hx'⟩
  cases e' with
  | normal =>
    cases er
    obtain ⟨hd, v, hv, r⟩ := q
    have rs := resV_sound hT hh' hf' hv
    exact ⟨by rw [hf'.defers]; simp [defersOf, hd], conc μ' κ' v, rs.1, μ', κ', .ret v, h', r, ⟨rfl, rs.2⟩, hh', hx'⟩
  | ret =>
    cases er
    obtain ⟨hd, v, hv, r⟩ := q
    have rs := resV_sound hT hh' hf' hv
    exact ⟨by rw [hf'.defers]; simp [defersOf, hd], conc μ' κ' v, rs.1, μ', κ', .ret v, h', r, ⟨rfl, rs.2⟩, hh', hx'⟩
  | panic v =>
    obtain ⟨rfl, hv⟩ := er
    exact ⟨by rw [hf'.defers]; simp [defersOf, q.1], μ', κ', .panic v, h', q.2, ⟨rfl, hv⟩, hh', hx'⟩
  | exit id => exact q.elim

theorem call_body (hT : TbOk P Tb) {f : FuncId} {fn : Func} {c : Code} {as : List AV} {R : AEnd → Heap → Prop} {rs : List ResultVar} (hf : P.funcs[f]? = some fn) (hb : fn.body = some c) (hn : fn.ntmps = N) (hr : fn.results.toList = rs) (hN : Nat.ble as.length N = true) (hS : Nat.ble N dslot = true)
    (k : WP P G N h.length c (bodyQ Tb G rs R) (initF 0 as) h) : CallTo P G f as h R := by
  subst hn hr
  exact call_body0 hT hf hb hN hS k

theorem f_cond {c : Operand} {x y : Code} {b : Bool} (hc : ev fr c = some (.bool b)) (k1 : b = true → WP P G N n x Q fr h) (k2 : b = false → WP P G N n y Q fr h) : WP P G N n (.cond c x y) Q fr h := by
  intro μ₀ κ₀ h₀ w₀ μ κ a w hn hx hh hf
  have := (ev_sound hf hc).1
  refine Go.wp_cond_split (t := b) (by simpa [conc] using this) ?_ ?_
  · intro e; exact k1 e μ₀ κ₀ h₀ w₀ μ κ a w hn hx hh hf
  · intro e; exact k2 e μ₀ κ₀ h₀ w₀ μ κ a w hn hx hh hf
theorem f_condT {c : Operand} {x y : Code} (hc : ev fr c = some (.bool true)) (k : WP P G N n x Q fr h) : WP P G N n (.cond c x y) Q fr h :=
  f_cond hc (fun _ => k) (fun e => by simp at e)
theorem f_condF {c : Operand} {x y : Code} (hc : ev fr c = some (.bool false)) (k : WP P G N n y Q fr h) : WP P G N n (.cond c x y) Q fr h :=
  f_cond hc (fun e => by simp at e) (fun _ => k)
end
end Go.Fm
