/- FM, a program logic over the given model with abstract values and an abstract heap: general lemmas. No statement is closed in this text. -/
import Derived.Test.YtcimapbdkmdcpaaGreatDoorFmX
set_option linter.unusedVariables false
set_option linter.unusedSimpArgs false
namespace Go.Fm
open Go

/-- The table says of the program's functions what holds. -/
def FOk (P : Program) (F : FuncId → Option FI) : Prop := ∀ f fi, F f = some fi → FnOk P f ∧ ∃ fn, P.funcs[f]? = some fn ∧ fn.body = some fi.body ∧ fn.ntmps = fi.n ∧ fn.results.toList = fi.rs

def eqQ (e : AExit) (fr : Frame) (h : Heap) : AExit → Frame → Heap → Prop := fun e2 f2 h2 => e2 = e ∧ f2 = fr ∧ h2 = h

structure IhOk (P : Program) (G : Nat → Nat → Option AV) (F : FuncId → Option FI) (ih : Ih) : Prop where
  code : ∀ N n c fr h e fr' h', ih.code N c fr h = some (e, fr', h') → WP P G N n c (eqQ e fr' h') fr h
  call : ∀ f as h v h', ih.call f as h = some (v, h') → RetTo P G f as h v h'

section
variable {P : Program} {Tb : TypeId → Option TInfo} {G : Nat → Nat → Option AV} {N n : Nat} {E : TypeId → Bool} {X : FuncId → Option XK} {F : FuncId → Option FI} {ih : Ih} {fr : Frame} {h : Heap} {o : Oper} {all : Array Oper}

theorem calI_ok (I : IhOk P G F ih) {f : FuncId} {as : List AV} {v : AV} {h' : Heap} (hv : calI F ih f as h = some (v, h')) : RetTo P G f as h v h' ∧ ∃ fi, F f = some fi := by
  unfold calI at hv
  split at hv
  · rename_i fi hfi
    refine ⟨?_, fi, hfi⟩
    split at hv
    · split at hv
      · rename_i v' h1 hg hc
        cases hb : v'.gr with
        | false => simp [hb] at hv
        | true =>
          simp [hb] at hv; obtain ⟨rfl, rfl⟩ := hv
          have r := I.call _ _ _ _ _ hc
          exact PureF.of (r.mono (fun e q hq => hq.1)) (AVs.gr_ok hg) (AV.gr_ok hb) h
      · simp at hv
    · exact I.call _ _ _ _ _ hv
  · simp at hv

/-- A result as an operation's. -/
def MOp (P : Program) (G : Nat → Nat → Option AV) (o : Oper) (fr : Frame) (h : Heap) : MRes → Prop
  | .grow v g => OpTo P G o fr h (some v) (h ++ [g])
  | .set v h' => OpTo P G o fr h (some v) h'
  | .store h' => o.dst = none → OpTo P G o fr h none h'

theorem MRes.Ok.op {r : MRes} (hr : r.Ok P G o fr h) : MOp P G o fr h r := by
  cases r with
  | grow v g => exact OpTo.step hr
  | set v h' => exact OpTo.step hr
  | store h' => exact fun hd => OpTo.store hd hr

theorem pure_step (hT : TbOk P Tb) {v : AV} (hv : pureOp Tb G fr h o.op = some v) : StepTo P G o fr h v h :=
  fun _ μ κ _ w hh hf => have r := pureOp_sound hT hh hf rfl hv; ⟨μ, κ, w, r.1, hh, r.2, Ext.refl _ _ _ _⟩

theorem opI_ok (hT : TbOk P Tb) (hE : EqOk P E) (hX : XOk P X) (hF : FOk P F) (I : IhOk P G F ih) {r : MRes} (hv : opI Tb G E X F ih fr h o.op = some r) : MOp P G o fr h r := by
  unfold opI at hv
  split at hv
  · rename_i v hp; simp at hv; subst hv; exact OpTo.step (pure_step hT hp)
  · split at hv
    · rename_i v hp; simp at hv; subst hv; exact OpTo.step (ixA_ok hT hE hX rfl hp)
    · split at hv
      · rename_i v hp; simp at hv; subst hv; exact OpTo.step (rdA_ok hT (Hsub.refl h) rfl hp)
      · split at hv
        · rename_i r' hp; simp at hv; subst hv; exact (memA_ok hT hX rfl hp).op
        · split at hv
          · rename_i c hop
            split at hv
            · rename_i f as hc
              split at hv
              · rename_i v h' hcal
                simp at hv; subst hv
                obtain ⟨hr, fi, hfi⟩ := calI_ok I hcal
                exact OpTo.ret hop hc (hF f fi hfi).1 hr
              · simp at hv
            · simp at hv
          · simp at hv

theorem opTo_go {rest : List Oper} {Q : AExit → Frame → Heap → Prop} {v : Option AV} {h' : Heap} (hd : okD N o.dst = true) (ho : OpTo P G o fr h v h') (k : opsWP P G N n all rest Q (putO fr o.dst v) h') : opsGo P G N n all o rest Q fr h := by
  intro R hR μ₀ κ₀ h₀ w₀ μ κ a w hn hx hh hf
  refine ho.2 N μ κ a w _ _ hh hf ?_
  intro μ' κ' w' hh' hx'
  refine ⟨fun x hv hle => ?_, fun hv => ?_⟩
  · subst hv
    exact k R hR μ₀ κ₀ h₀ w₀ μ' κ' _ w' hn (hx.trans hx') hh' ((hf.world hx'.agree hx'.len).put hd hle)
  · subst hv
    exact k R hR μ₀ κ₀ h₀ w₀ μ' κ' _ w' hn (hx.trans hx') hh' (hf.world hx'.agree hx'.len)

theorem opsI_ok (hT : TbOk P Tb) (hE : EqOk P E) (hX : XOk P X) (hF : FOk P F) (I : IhOk P G F ih) : ∀ {l : List Oper} {fr fr' : Frame} {h h' : Heap}, opsI Tb G E X F ih N all l fr h = some (fr', h') → opsWP P G N n all l (eqQ .normal fr' h') fr h
  | [], fr, fr', h, h', hv => by
    simp [opsI] at hv; obtain ⟨rfl, rfl⟩ := hv
    exact ops_nil ⟨rfl, rfl, rfl⟩
  | o :: r, fr, fr', h, h', hv => by
    simp only [opsI] at hv
    split at hv
    · rename_i hg
      refine ops_go hg ?_
      split at hv
      · rename_i v h1 hop
        cases hd : okD N o.dst with
        | false => simp [hd] at hv
        | true =>
          simp only [hd, cond_true, fAV_eq] at hv
          exact opTo_go hd (opI_ok hT hE hX hF I hop) (opsI_ok hT hE hX hF I hv)
      · rename_i v g hop
        cases hd : okD N o.dst with
        | false => simp [hd] at hv
        | true =>
          simp only [hd, cond_true, fAV_eq] at hv
          exact opTo_go hd (opI_ok hT hE hX hF I hop) (opsI_ok hT hE hX hF I hv)
      · rename_i h1 hop
        split at hv
        · rename_i hd
          exact opTo_go (by rw [hd]; rfl) (opI_ok hT hE hX hF I hop hd) (opsI_ok hT hE hX hF I hv)
        · simp at hv
      · simp at hv
    · rename_i hg
      cases hd : okD N o.dst with
      | false => simp [hd] at hv
      | true =>
        simp only [hd, cond_true] at hv
        exact ops_skip hg hd (opsI_ok hT hE hX hF I hv)
    · simp at hv

theorem drO_ok (hT : TbOk P Tb) (hE : EqOk P E) (hX : XOk P X) (hF : FOk P F) (I : IhOk P G F ih) {h0 : Heap} {m : Bool} {k : Kd} {r : MRes} (hg : gw all (restr fr (looksT all o)) o = some true) (hv : drO Tb G E X F ih h0 m (restr fr (looksT all o)) h o.op = some (r, k)) :
    match r with
    | .grow v g => KOk P G all h0 o fr h (some v) (h ++ [g]) k
    | .set v h' => KOk P G all h0 o fr h (some v) h' k
    | .store h' => o.dst = none → KOk P G all h0 o fr h none h' k := by
  unfold drO at hv
  split at hv
  · rename_i v hp
    simp at hv; obtain ⟨rfl, rfl⟩ := hv
    exact ⟨hg, rfl, fun g => OpTo.step (pure_step hT (pureOp_mono (Hsub.app [] g) hp))⟩
  · split at hv
    · rename_i v hp
      simp at hv; obtain ⟨rfl, rfl⟩ := hv
      exact ⟨hg, rfl, fun g => OpTo.step (ixA_ok hT hE hX rfl hp)⟩
    · split at hv
      · rename_i v hp
        simp at hv; obtain ⟨rfl, rfl⟩ := hv
        exact ⟨hg, rfl, fun g => OpTo.step (pure_step hT (pureOp_mono (Hsub.app h0 g) (gdm_some hp)))⟩
      · split at hv
        · rename_i v hp
          simp at hv; obtain ⟨rfl, rfl⟩ := hv
          exact ⟨hg, rfl, fun g => OpTo.step (rdA_ok hT (Hsub.app h0 g) rfl (gdm_some hp))⟩
        · split at hv
          · rename_i v h' hop
            simp at hv; obtain ⟨rfl, rfl⟩ := hv
            exact ⟨hg, opI_ok hT hE hX hF I hop, by simp⟩
          · rename_i v g hop
            simp at hv; obtain ⟨rfl, rfl⟩ := hv
            exact ⟨hg, opI_ok hT hE hX hF I hop, fun _ => ⟨[g], rfl⟩⟩
          · rename_i h' hop
            simp at hv; obtain ⟨rfl, rfl⟩ := hv
            exact fun hd => ⟨hg, opI_ok hT hE hX hF I hop hd, by simp⟩
          · simp at hv

theorem drI_ok (hT : TbOk P Tb) (hE : EqOk P E) (hX : XOk P X) (hF : FOk P F) (I : IhOk P G F ih) {h0 : Heap} : ∀ {l : List Oper} {acc : List Kd} {m : Bool} {fr fr' : Frame} {h h' : Heap}, drI Tb G E X F ih N all h0 l acc m fr h = some (fr', h') → DrK P G N all h0 l acc (fun f2 h2 => f2 = fr' ∧ h2 = h') fr h
  | [], acc, m, fr, fr', h, h', hv => by
    simp only [drI] at hv
    cases hc : chk all acc.reverse with
    | false => simp [hc] at hv
    | true => simp [hc] at hv; obtain ⟨rfl, rfl⟩ := hv; exact DrK.nil hc ⟨rfl, rfl⟩
  | o :: r, acc, m, fr, fr', h, h', hv => by
    simp only [drI] at hv
    split at hv
    · rename_i hg
      split at hv
      · rename_i v h1 k hop
        cases hd : okD N o.dst with
        | false => simp [hd] at hv
        | true =>
          simp only [hd, cond_true, fAV_eq] at hv
          exact DrK.cons (drO_ok hT hE hX hF I hg hop) hd (drI_ok hT hE hX hF I hv)
      · rename_i v g k hop
        cases hd : okD N o.dst with
        | false => simp [hd] at hv
        | true =>
          simp only [hd, cond_true, fAV_eq] at hv
          exact DrK.cons (drO_ok hT hE hX hF I hg hop) hd (drI_ok hT hE hX hF I hv)
      · rename_i h1 k hop
        split at hv
        · rename_i hd
          exact DrK.cons (drO_ok hT hE hX hF I hg hop hd) (by rw [hd]; rfl) (drI_ok hT hE hX hF I hv)
        · simp at hv
      · simp at hv
    · rename_i hg
      cases hd : okD N o.dst with
      | false => simp [hd] at hv
      | true =>
        simp only [hd, cond_true] at hv
        exact DrK.cons (v := some (.tup [])) (k := .s) ⟨hg, rfl, rfl⟩ hd (drI_ok hT hE hX hF I hv)
    · simp at hv

theorem loopI_ok {c : Code} {body : Frame → Heap → Option (AExit × Frame × Heap)} (hb : ∀ fr h e fr' h', body fr h = some (e, fr', h') → WP P G N n c (eqQ e fr' h') fr h) : ∀ {k : Nat} {fr : Frame} {h : Heap} {e : AExit} {fr' : Frame} {h' : Heap}, loopI body k fr h = some (e, fr', h') → RW P G N n c (eqQ e fr' h') k fr h
  | 0, fr, h, e, fr', h', hv => by simp [loopI] at hv
  | k + 1, fr, h, e, fr', h', hv => by
    have hv : (match body fr h with
      | some (.normal, fr', h') => loopI body k (dd 0 fr') h'
      | r => r) = some (e, fr', h') := hv
    split at hv
    · rename_i f1 h1 hbd
      refine (hb _ _ _ _ _ hbd).mono ?_
      rintro e2 f2 h2 ⟨rfl, rfl, rfl⟩
      exact RW.dd (loopI_ok hb hv)
    · rename_i r hne
      refine (hb _ _ _ _ _ hv).mono ?_
      rintro e2 f2 h2 ⟨rfl, rfl, rfl⟩
      cases e2 with
      | normal => exact absurd hv (hne _ _)
      | _ => exact ⟨rfl, rfl, rfl⟩

theorem codeI_ok (hm : P.follows .mixedOrders = true) (hT : TbOk P Tb) (hE : EqOk P E) (hX : XOk P X) (hF : FOk P F) (I : IhOk P G F ih) {c : Code} {fr : Frame} {h : Heap} {e : AExit} {fr' : Frame} {h' : Heap} (hv : codeI Tb G E X F ih N c fr h = some (e, fr', h')) : WP P G N n c (eqQ e fr' h') fr h := by
  unfold codeI at hv
  split at hv
  · simp at hv; obtain ⟨rfl, rfl, rfl⟩ := hv; exact f_skip ⟨rfl, rfl, rfl⟩
  · simp at hv; obtain ⟨rfl, rfl, rfl⟩ := hv; exact f_ret ⟨rfl, rfl, rfl⟩
  · simp at hv; obtain ⟨rfl, rfl, rfl⟩ := hv; exact f_exit ⟨rfl, rfl, rfl⟩
  · refine f_seq ?_
    split at hv
    · rename_i f1 h1 ha
      refine (I.code _ n _ _ _ _ _ _ ha).mono ?_
      rintro e2 f2 h2 ⟨rfl, rfl, rfl⟩
      exact I.code _ n _ _ _ _ _ _ hv
    · rename_i r hne
      refine (I.code _ n _ _ _ _ _ _ hv).mono ?_
      rintro e2 f2 h2 ⟨rfl, rfl, rfl⟩
      cases e2 with
      | normal => exact absurd hv (hne _ _)
      | _ => exact ⟨rfl, rfl, rfl⟩
  · rename_i id c
    refine f_block ?_
    split at hv
    · rename_i j f1 h1 ha
      refine (I.code _ n _ _ _ _ _ _ ha).mono ?_
      rintro e2 f2 h2 ⟨rfl, rfl, rfl⟩
      cases hb : Nat.beq j id with
      | true => simp [hb] at hv; obtain ⟨rfl, rfl, rfl⟩ := hv; exact blk_eq hb ⟨rfl, rfl, rfl⟩
      | false => simp [hb] at hv; obtain ⟨rfl, rfl, rfl⟩ := hv; exact blk_ne hb ⟨rfl, rfl, rfl⟩
    · rename_i r hne
      refine (I.code _ n _ _ _ _ _ _ hv).mono ?_
      rintro e2 f2 h2 ⟨rfl, rfl, rfl⟩
      cases e2 with
      | exit j => exact absurd hv (hne _ _ _)
      | _ => exact ⟨rfl, rfl, rfl⟩
  · exact f_rounds (loopI_ok (fun fr h e fr' h' hb => I.code _ n _ _ _ _ _ _ hb) hv)
  · split at hv
    · rename_i hx; exact f_condT hx (I.code _ n _ _ _ _ _ _ hv)
    · rename_i hx; exact f_condF hx (I.code _ n _ _ _ _ _ _ hv)
    · simp at hv
  · split at hv
    · rename_i f1 h1 ha
      simp at hv; obtain ⟨rfl, rfl, rfl⟩ := hv
      exact f_region (opsI_ok hT hE hX hF I ha)
    · simp at hv
  · split at hv
    · rename_i f1 h1 ha
      simp at hv; obtain ⟨rfl, rfl, rfl⟩ := hv
      refine f_draw hm ?_
      obtain ⟨A, B, C, D, q1, q2, q3, q4, q5⟩ := drI_ok hT hE hX hF I ha
      exact ⟨A, B, C, D, q1, q2, q3, q4, rfl, q5.1, q5.2⟩
    · simp at hv
  · simp at hv

theorem callI_ok (hT : TbOk P Tb) (hF : FOk P F) (I : IhOk P G F ih) {f : FuncId} {as : List AV} {v : AV} {h' : Heap} (hv : callI Tb G F ih f as h = some (v, h')) : RetTo P G f as h v h' := by
  unfold callI at hv
  split at hv
  · rename_i fi hfi
    obtain ⟨_, fn, q1, q2, q3, q4⟩ := hF f fi hfi
    cases b1 : Nat.ble as.length fi.n with
    | false => simp [b1] at hv
    | true =>
      cases b2 : Nat.ble fi.n dslot with
      | false => simp [b1, b2] at hv
      | true =>
        simp only [b1, b2, cond_true] at hv
        split at hv
        · rename_i e fr' h1 hc
          cases b3 : isEnd e with
          | false => simp [b3] at hv
          | true =>
            simp only [b3, cond_true] at hv
            split at hv
            · rename_i v' hd hr
              simp only [fAV_eq, Option.some.injEq, Prod.mk.injEq] at hv
              obtain ⟨rfl, rfl⟩ := hv
              refine call_body hT q1 q2 q3 q4 b1 b2 ((I.code _ _ _ _ _ _ _ _ hc).mono ?_)
              rintro e2 f2 h2 ⟨rfl, rfl, rfl⟩
              cases e2 with
              | normal => exact ⟨hd, v', hr, rfl, rfl⟩
              | ret => exact ⟨hd, v', hr, rfl, rfl⟩
              | _ => simp [isEnd] at b3
            · simp at hv
        · simp at hv
  · simp at hv

theorem runF_ok (hm : P.follows .mixedOrders = true) (hT : TbOk P Tb) (hE : EqOk P E) (hX : XOk P X) (hF : FOk P F) : ∀ k, IhOk P G F (runF Tb G E X F k)
  | 0 => ⟨fun _ _ _ _ _ _ _ _ h => by simp [runF] at h, fun _ _ _ _ _ h => by simp [runF] at h⟩
  | k + 1 => ⟨fun _ _ _ _ _ _ _ _ h => codeI_ok hm hT hE hX hF (runF_ok hm hT hE hX hF k) h, fun _ _ _ _ _ h => callI_ok hT hF (runF_ok hm hT hE hX hF k) h⟩

/-- A run of a function. -/
theorem run_ret (hm : P.follows .mixedOrders = true) (hT : TbOk P Tb) (hE : EqOk P E) (hX : XOk P X) (hF : FOk P F) (k : Nat) {f : FuncId} {as : List AV} {v : AV} {h' : Heap} (hv : (runF Tb G E X F k).call f as h = some (v, h')) : RetTo P G f as h v h' :=
  (runF_ok hm hT hE hX hF k).call _ _ _ _ _ hv
end
end Go.Fm
namespace Go.Fm
open Go
/-! Tables as lists. -/
inductive FLOk (P : Program) : List (Nat × Func × Bool) → Prop
  | nil : FLOk P []
  | cons {f : Nat} {fn : Func} {g : Bool} {l : List (Nat × Func × Bool)} (h : P.funcs[f]? = some fn) (t : FLOk P l) : FLOk P ((f, fn, g) :: l)
def ftOf : List (Nat × Func × Bool) → FuncId → Option FI
  | [], _ => none
  | (j, fn, g) :: r, f => bif Nat.beq j f then (match fn.body with
    | some b => some ⟨b, fn.ntmps, fn.results.toList, g⟩
    | none => none) else ftOf r f
def fnOkL (l : List (Nat × Func × Bool)) : Bool := l.all fun x => !(x.2.1.name == "runtime.NumGoroutine") && !x.2.1.body.isNone
theorem ftOf_ok {P : Program} : ∀ {l : List (Nat × Func × Bool)}, FLOk P l → fnOkL l = true → FOk P (ftOf l)
  | _, .nil, _ => fun f fi h => by simp [ftOf] at h
  | _, .cons (f := j) (fn := fn) (g := g) hf t, hk => fun f fi h => by
    simp only [fnOkL, List.all_cons, Bool.and_eq_true] at hk
    simp only [ftOf] at h
    cases e : Nat.beq j f with
    | true =>
      have := Nat.eq_of_beq_eq_true e
      subst this
      simp only [e, cond_true] at h
      split at h
      · rename_i b hb
        simp at h; subst h
        refine ⟨⟨fn, hf, by simpa using hk.1.1, by simpa using hk.1.2⟩, fn, hf, hb, rfl, rfl⟩
      · simp at h
    | false =>
      simp only [e, cond_false] at h
      exact ftOf_ok t (by simpa [fnOkL] using hk.2) f fi h
inductive XLOk (P : Program) : List (Nat × XK) → Prop
  | nil : XLOk P []
  | cons {f : Nat} {k : XK} {l : List (Nat × XK)} (h : ExtOk P f k.entry) (t : XLOk P l) : XLOk P ((f, k) :: l)
def xtOf : List (Nat × XK) → FuncId → Option XK
  | [], _ => none
  | (j, k) :: r, f => bif Nat.beq j f then some k else xtOf r f
theorem xtOf_ok {P : Program} : ∀ {l : List (Nat × XK)}, XLOk P l → XOk P (xtOf l)
  | _, .nil => fun f k h => by simp [xtOf] at h
  | _, .cons (f := j) hf t => fun f k h => by
    simp only [xtOf] at h
    cases e : Nat.beq j f with
    | true =>
      have := Nat.eq_of_beq_eq_true e
      subst this
      simp [e] at h; subst h; exact hf
    | false => simp only [e, cond_false] at h; exact xtOf_ok t f k h
theorem eqL_ok {P : Program} {l : List Nat} (h : l.all (eqChk P) = true) : EqOk P (inL l) := by
  intro t ht
  have mem : ∀ {l : List Nat}, inL l t = true → t ∈ l := by
    intro l
    induction l with
    | nil => intro h; simp [inL] at h
    | cons x r ih =>
      intro h
      simp only [inL] at h
      cases e : Nat.beq x t with
      | true => have := Nat.eq_of_beq_eq_true e; subst this; exact List.mem_cons_self ..
      | false => simp [e] at h; exact List.mem_cons_of_mem _ (ih h)
  rw [List.all_eq_true] at h
  exact h t (mem ht)
end Go.Fm
