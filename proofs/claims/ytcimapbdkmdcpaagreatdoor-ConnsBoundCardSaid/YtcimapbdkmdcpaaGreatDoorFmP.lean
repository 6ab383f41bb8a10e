/- FM, a program logic over the given model with abstract values and an abstract heap: general lemmas. No statement is closed in this text. -/
import Derived.Test.YtcimapbdkmdcpaaGreatDoorFmM
set_option linter.unusedVariables false
set_option linter.unusedSimpArgs false
namespace Go.Fm
open Go

section
variable {P : Program} {Tb : TypeId → Option TInfo} {G : Nat → Nat → Option AV} {N n : Nat} {all : Array Oper} {rest : List Oper} {Q : AExit → Frame → Heap → Prop} {fr : Frame} {h : Heap} {o : Oper}

structure ChkAt (all : Array Oper) (os : List Oper) (K : Nat → Kd) (i : Nat) (o : Oper) (x : Nat) : Prop where
  lt : ∀ e ∈ o.after.toList, Region.binds .any e = true → e.on < i
  nods : dslot ∉ looksT all o
  look : ∀ (j : Nat) (oj : Oper) (d : Nat), os[j]? = some oj → oj.dst = some d → d ∈ looksT all o → bit x j = true ∨ i = j ∨ ∃ y, (ancs [] os)[j]? = some y ∧ bit y i = true
  uniq : ∀ (j : Nat) (oj : Oper) (d : Nat), os[j]? = some oj → j < i → o.dst = some d → oj.dst ≠ some d
  cc : ∀ (j : Nat) (oj : Oper), os[j]? = some oj → j < i → (K i).isC = true → (K j).isC = true → bit x j = true
  mq : ∀ (j : Nat) (oj : Oper), os[j]? = some oj → j < i → (K i).isM = true → (K j).isQ = true → bit x j = true
  qm : ∀ (j : Nat) (oj : Oper), os[j]? = some oj → j < i → (K i).isQ = true → (K j).isM = false

theorem chk_spec {K : Nat → Kd} (hc : chk all ((List.range all.toList.length).map K) = true) (i : Nat) (o : Oper) (x : Nat) (ho : all.toList[i]? = some o) (hx : (ancs [] all.toList)[i]? = some x) : ChkAt all all.toList K i o x := by
  obtain ⟨l, h1, h2, h3⟩ := ancs_spec all.toList []
  simp only [List.nil_append] at h1
  have hk : ∀ (j : Nat) (oj : Oper), all.toList[j]? = some oj → ((List.range all.toList.length).map K)[j]? = some (K j) := fun j oj hj => by
    have := lt_of_get hj
    rw [List.getElem?_map, List.getElem?_range this]; rfl
  have hxs : ∀ (j : Nat) (oj : Oper), all.toList[j]? = some oj → ∃ y, (ancs [] all.toList)[j]? = some y := fun j oj hj => by
    rw [h1]
    have := lt_of_get hj
    exact ⟨_, List.getElem?_eq_getElem (by omega)⟩
  unfold chk at hc
  have a := allI_spec hc i _ (rows_get ho (hk i o ho) hx)
  simp only [Nat.zero_add] at a
  cases e1 : edgesLt i o.after.toList with
  | false => simp [e1] at a
  | true =>
    simp only [e1, cond_true] at a
    cases e2 : dstIn (some dslot) (looksT all o) with
    | true => simp [e2] at a
    | false =>
      simp only [e2, cond_false] at a
      have b : ∀ (j : Nat) (oj : Oper), all.toList[j]? = some oj → ∃ y, (ancs [] all.toList)[j]? = some y ∧ chk2 (looksT all o) o.dst (K i) x i j oj (K j) y = true := by
        intro j oj hj
        obtain ⟨y, hy⟩ := hxs j oj hj
        have := allI_spec a j _ (rows_get hj (hk j oj hj) hy)
        exact ⟨y, hy, by simpa only [Nat.zero_add] using this⟩
      have sp : ∀ (j : Nat) (oj : Oper), all.toList[j]? = some oj → (∀ d, oj.dst = some d → d ∈ looksT all o → bit x j = true ∨ i = j ∨ ∃ y, (ancs [] all.toList)[j]? = some y ∧ bit y i = true) ∧ (j < i → (∀ d, o.dst = some d → oj.dst ≠ some d) ∧ ((K i).isC = true → (K j).isC = true → bit x j = true) ∧ ((K i).isM = true → (K j).isQ = true → bit x j = true) ∧ ((K i).isQ = true → (K j).isM = false)) := by
        intro j oj hj
        obtain ⟨y, hy, c⟩ := b j oj hj
        unfold chk2 at c
        cases c1 : (bif dstIn oj.dst (looksT all o) then (bif bit x j then true else (bif Nat.beq i j then true else bit y i)) else true) with
        | false => rw [c1] at c; simp at c
        | true =>
          rw [c1] at c
          simp only [cond_true] at c
          refine ⟨fun d hd hm => ?_, fun hlt => ?_⟩
          · rw [hd, dstIn_spec hm] at c1
            simp only [cond_true] at c1
            cases e1 : bit x j with
            | true => exact .inl rfl
            | false =>
              simp only [e1, cond_false] at c1
              cases e2 : Nat.beq i j with
              | true => exact .inr (.inl (Nat.eq_of_beq_eq_true e2))
              | false => simp only [e2, cond_false] at c1; exact .inr (.inr ⟨y, hy, c1⟩)
          · have hlt : Nat.blt j i = true := by simpa [Nat.blt_eq] using hlt
            simp only [hlt, cond_true] at c
            cases c2 : dstEq o.dst oj.dst with
            | true => simp [c2] at c
            | false =>
              simp only [c2, cond_false] at c
              cases c3 : (bif (K i).isC then (bif (K j).isC then bit x j else true) else true) with
              | false => rw [c3] at c; simp at c
              | true =>
                simp only [c3, cond_true] at c
                cases c4 : (bif (K i).isM then (bif (K j).isQ then bit x j else true) else true) with
                | false => rw [c4] at c; simp at c
                | true =>
                  simp only [c4, cond_true] at c
                  refine ⟨fun d hd he => ?_, fun u v => ?_, fun u v => ?_, fun u => ?_⟩
                  · rw [hd, he] at c2; simp [dstEq] at c2
                  · simpa [u, v] using c3
                  · simpa [u, v] using c4
                  · simpa [u] using c
      exact ⟨edgesLt_spec e1, fun hm => by rw [dstIn_spec hm] at e2; simp at e2, fun j oj d hj hd hm => (sp j oj hj).1 d hd hm, fun j oj d hj hl => ((sp j oj hj).2 hl).1 d,
        fun j oj hj hl => ((sp j oj hj).2 hl).2.1, fun j oj hj hl => ((sp j oj hj).2 hl).2.2.1, fun j oj hj hl => ((sp j oj hj).2 hl).2.2.2⟩

theorem KOk.vnone {h0 h' : Heap} {v : Option AV} {k : Kd} (hk : KOk P G all h0 o fr h v h' k) (hv : v = none) : o.dst = none := by
  cases k with
  | s => rw [hk.2.1] at hv; simp at hv
  | q b => exact (hk.2.2 []).1 hv
  | c e => exact hk.2.1.1 hv

theorem KOk.same {h0 h' : Heap} {v : Option AV} {k : Kd} (hk : KOk P G all h0 o fr h v h' k) (hc : k.isC = false) : h' = h := by
  cases k with
  | s => exact hk.2.2
  | q b => exact hk.2.1
  | c e => simp [Kd.isC] at hc

def done (listed : Array Bool) (i : Nat) : Prop := listed.getD i false = true

theorem count_setL : ∀ {l : List Bool} {i : Nat}, l[i]? = some false → (l.set i true).count false + 1 = l.count false
  | x :: t, 0, h => by simp at h; subst h; simp
  | x :: t, i + 1, h => by
    have := count_setL (l := t) (i := i) (by simpa using h)
    simp only [List.set_cons_succ, List.count_cons]
    omega
theorem count_set {l : Array Bool} {i : Nat} (h : l.getD i true = false) : (l.setIfInBounds i true).toList.count false + 1 = l.toList.count false := by
  rw [Array.toList_setIfInBounds]
  refine count_setL ?_
  rcases Nat.lt_or_ge i l.size with x | x
  · simpa [x] using h
  · simp [Array.getElem?_eq_none x] at h

theorem done_rep {m j : Nat} : ¬ done (Array.replicate m false) j := by
  unfold done
  rcases Nat.lt_or_ge j m with x | x
  · simp [x]
  · simp [Array.getElem?_eq_none (xs := Array.replicate m false) (i := j) (by simpa using x)]
theorem done_not {l : Array Bool} {i : Nat} (h : i < l.size) (hd : ¬ done l i) : l.getD i true = false := by
  unfold done at hd
  simp [h] at hd ⊢
  exact hd
theorem not_done {l : Array Bool} {i : Nat} (h : l.getD i true = false) : ¬ done l i ∧ i < l.size := by
  rcases Nat.lt_or_ge i l.size with x | x
  · refine ⟨?_, x⟩
    unfold done
    simp [x] at h ⊢
    exact h
  · simp [Array.getElem?_eq_none x] at h
theorem done_set {l : Array Bool} {i j : Nat} (h : i < l.size) : done (l.setIfInBounds i true) j ↔ done l j ∨ j = i := by
  unfold done
  by_cases e : i = j
  · subst e; simp [h]
  · simp [Array.getElem?_setIfInBounds_ne e, Ne.symm e]
theorem done_all {l : Array Bool} (h : ∀ i, i < l.size → done l i) : l.toList.count false = 0 := by
  refine List.count_eq_zero.2 fun hm => ?_
  obtain ⟨i, hi, e⟩ := List.getElem_of_mem hm
  have hi' : i < l.size := by simpa using hi
  have := h i hi'
  unfold done at this
  simp [hi'] at this
  simp [this] at e
theorem all_done {l : Array Bool} (h : l.toList.count false = 0) : ∀ i, i < l.size → done l i := by
  intro i hi
  by_cases e : done l i
  · exact e
  · have := done_not hi e
    simp [hi] at this
    have hm : false ∈ l.toList := by rw [← this]; exact Array.getElem_mem_toList _
    have := List.count_pos_iff.2 hm
    omega

/-- Operations in an open order come to what they come to in the order of the text. -/
theorem f_draw {id : Nat} (hm : P.follows .mixedOrders = true) (k : DrK P G N all h all.toList [] (Q .normal) fr h) : WP P G N n (.region id all true) Q fr h := by
  obtain ⟨F, H, V, K, hF0, hH0, hstep, hc, hq⟩ := k
  have hc : chk all ((List.range all.toList.length).map K) = true := hc
  intro μ₀ κ₀ h₀ w₀ μ κ a w hn hx hh hf
  refine wp_region_any hm ?_
  generalize hos : all.toList = os at *
  have hsz : os.length = all.size := by rw [← hos]; simp
  have hget : ∀ (i : Nat), all[i]? = os[i]? := fun i => by rw [← hos]; simp
  have anc : ∀ (i : Nat) (o : Oper), os[i]? = some o → ∃ x, (ancs [] os)[i]? = some x := fun i o hi => by
    obtain ⟨l, h1, h2, h3⟩ := ancs_spec os []
    rw [h1, List.nil_append]
    have := lt_of_get hi
    exact ⟨_, List.getElem?_eq_getElem (by omega)⟩
  have hchk : ∀ (i : Nat) (o : Oper) (x : Nat), os[i]? = some o → (ancs [] os)[i]? = some x → ChkAt all os K i o x := by
    subst hos; exact chk_spec hc
  have hlt : ∀ (i : Nat) (o : Oper), os[i]? = some o → ∀ e ∈ o.after.toList, Region.binds .any e = true → e.on < i := fun i o hi => by
    obtain ⟨x, hxx⟩ := anc i o hi
    exact (hchk i o x hi hxx).lt
  have uniq : ∀ (i j : Nat) (oi oj : Oper) (d : Nat), os[i]? = some oi → os[j]? = some oj → j < i → oi.dst = some d → oj.dst ≠ some d := fun i j oi oj d hi hj hl => by
    obtain ⟨x, hxx⟩ := anc i oi hi
    exact (hchk i oi x hi hxx).uniq j oj d hj hl
  have hsmall := hf.small
  have nods : ∀ (j : Nat) (o : Oper), os[j]? = some o → o.dst ≠ some dslot := fun j o hj e => by
    have := (hstep j o hj).2.1
    rw [e] at this
    simp [okD, Nat.blt_eq] at this
    omega
  -- the frames
  have f1 : ∀ i, i ≤ os.length → ∀ t, (∀ (j : Nat) (o : Oper), j < i → os[j]? = some o → o.dst ≠ some t) → get (F i) t = get fr t := by
    intro i
    induction i with
    | zero => intro _ t _; rw [hF0]
    | succ i ih =>
      intro hi t ht
      have ho : os[i]? = some os[i] := List.getElem?_eq_getElem (by omega)
      rw [(hstep i _ ho).2.2]
      have r := ih (by omega) t (fun j o hj => ht j o (by omega))
      cases hv : V i with
      | none => simpa [putO] using r
      | some v =>
        cases hd : os[i].dst with
        | none => simpa [putO, Fm.put] using r
        | some d =>
          simp only [putO]
          rw [get_put, if_neg (fun e => ht i _ (by omega) ho (by rw [hd, e]))]
          exact r
  have f2 : ∀ (j : Nat) (o : Oper) (d : Nat) (v : AV), os[j]? = some o → o.dst = some d → V j = some v → ∀ i, j < i → i ≤ os.length → get (F i) d = some v := by
    intro j o d v hj hd hv i
    induction i with
    | zero => intro h; omega
    | succ i ih =>
      intro hji hi
      have ho : os[i]? = some os[i] := List.getElem?_eq_getElem (by omega)
      rw [(hstep i _ ho).2.2]
      by_cases e : j = i
      · subst e
        rw [ho] at hj
        simp at hj; subst hj
        rw [hv, hd]
        simp only [putO]
        rw [get_put, if_pos rfl]
      · have r := ih (by omega) (by omega)
        cases hv' : V i with
        | none => simpa [putO] using r
        | some v' =>
          cases hd' : os[i].dst with
          | none => simpa [putO, Fm.put] using r
          | some d' =>
            simp only [putO]
            rw [get_put, if_neg (fun e => uniq i j _ o d' ho hj (by omega) hd' (by rw [hd, e]))]
            exact r
  have heq : ∀ x y, x ≤ y → y ≤ os.length → (∀ c, x ≤ c → c < y → (K c).isC = false) → H y = H x := by
    intro x y
    induction y with
    | zero => intro hxy _ _; have : x = 0 := by omega
              rw [this]
    | succ y ih =>
      intro hxy hy hno
      by_cases e : x = y + 1
      · rw [e]
      · have ho : os[y]? = some os[y] := List.getElem?_eq_getElem (by omega)
        rw [KOk.same (hstep y _ ho).1 (hno y (by omega) (by omega))]
        exact ih (by omega) (by omega) (fun c h1 h2 => hno c h1 (by omega))
  -- the walk
  suffices main : ∀ (fuel : Nat) (listed : Array Bool) (a : Act) (w : World) (μ κ : Nat → Nat) (m : Nat) (frA : Frame), listed.size = os.length → listed.toList.count false = fuel →
      Ext μ₀ κ₀ μ κ h₀ (H m) w₀ w → HRel P G μ κ (H m) w → FRel N μ κ frA (H m).length a → m ≤ os.length →
      (∀ (j : Nat) (o : Oper) (d : Nat) (v : AV), done listed j → os[j]? = some o → o.dst = some d → V j = some v → get frA d = some v) →
      (∀ t, (∀ (j : Nat) (o : Oper), done listed j → os[j]? = some o → o.dst ≠ some t) → get frA t = get fr t) →
      (∀ c, c < os.length → (K c).isC = true → (done listed c ↔ c < m)) →
      (∀ (i : Nat) (o : Oper), done listed i → os[i]? = some o → ∀ e ∈ o.after.toList, Region.binds .any e = true → done listed e.on) →
      wpAny P .any all (Post P G N μ₀ κ₀ h₀ w₀ Q) fuel listed a w by
    refine main all.size (Array.replicate all.size false) a _ μ κ 0 fr (by simp [hsz]) (by simp) ?_ ?_ (by rw [hH0]; exact hf) (by omega) ?_ (fun t _ => rfl) ?_ ?_
    · rw [hH0]; exact ⟨hx.os, hx.tape, hx.output, hx.size, hx.len, hx.agree, hx.keep, hx.fresh⟩
    · rw [hH0]; exact hh.of_heap rfl
    · intro j o d v hj; exact absurd hj done_rep
    · intro c hcl _
      constructor
      · intro hj; exact absurd hj done_rep
      · intro hj; omega
    · intro i o hj; exact absurd hj done_rep
  intro fuel
  induction fuel with
  | zero =>
    intro listed a w μ κ m frA hls hcnt hx hh hf hmn A1 A2 A3 A4
    have hall : ∀ i, i < os.length → done listed i := fun i hi => all_done hcnt i (by omega)
    refine ⟨?_, ?_⟩
    · cases hr : Region.ready .any all listed with
      | nil => rfl
      | cons i t =>
        have hi : i ∈ Region.ready .any all listed := by rw [hr]; exact List.mem_cons_self ..
        obtain ⟨r1, o, ho, _⟩ := mem_ready.1 hi
        rw [hget] at ho
        exact absurd (hall i (lt_of_get ho)) (not_done r1).1
    · have hHm : H m = H os.length := (heq m os.length hmn (Nat.le_refl _) (fun c h1 h2 => by
        cases hC : (K c).isC with
        | false => rfl
        | true => have := (A3 c h2 hC).1 (hall c h2); omega)).symm
      rw [hHm] at hx hh hf
      refine ⟨μ, κ, .normal, F os.length, H os.length, hq, rfl, hh, hf.sub (fun t v hv ht => ?_) ?_, hx⟩
      · by_cases hj : ∃ (j : Nat) (o : Oper), os[j]? = some o ∧ o.dst = some t
        · obtain ⟨j, o, hj, hd⟩ := hj
          cases hv' : V j with
          | none => have := KOk.vnone (hstep j o hj).1 hv'; rw [this] at hd; simp at hd
          | some v' =>
            rw [f2 j o t v' hj hd hv' _ (lt_of_get hj) (Nat.le_refl _)] at hv
            simp at hv; subst hv
            exact A1 j o t v' (hall j (lt_of_get hj)) hj hd hv'
        · rw [f1 _ (Nat.le_refl _) t (fun j o _ hj hd => (show False from (by assumption : ¬ ∃ (j : Nat) (o : Oper), os[j]? = some o ∧ o.dst = some t) ⟨j, o, hj, hd⟩))] at hv
          rw [A2 t (fun j o _ hj hd => (show False from (by assumption : ¬ ∃ (j : Nat) (o : Oper), os[j]? = some o ∧ o.dst = some t) ⟨j, o, hj, hd⟩))]
          exact hv
      · rw [f1 _ (Nat.le_refl _) dslot (fun j o _ hj => nods j o hj), A2 dslot (fun j o _ hj => nods j o hj)]
  | succ fuel ih =>
    intro listed a w μ κ m frA hls hcnt hx hh hf hmn A1 A2 A3 A4
    refine ⟨fun hr => ?_, fun i hi => ?_⟩
    · have hall : ∀ i, i < listed.size → done listed i := by
        intro i
        induction i using Nat.strongRecOn with
        | _ i ihi =>
          intro hi
          by_cases e : done listed i
          · exact e
          · have ho : os[i]? = some os[i] := List.getElem?_eq_getElem (by omega)
            have : i ∈ Region.ready .any all listed := mem_ready.2 ⟨done_not hi e, os[i], by rw [hget]; exact ho, fun ed he hb => by
              have hl := hlt i _ ho ed (by simpa using he) hb
              exact ihi ed.on hl (by omega)⟩
            rw [hr] at this; simp at this
      have := done_all hall
      omega
    obtain ⟨r1, o, ho, hpre⟩ := mem_ready.1 hi
    rw [hget] at ho
    obtain ⟨hnd, hil⟩ := not_done r1
    have hin : i < os.length := lt_of_get ho
    obtain ⟨x, hxx⟩ := anc i o ho
    have C := hchk i o x ho hxx
    have hpre : ∀ e ∈ o.after.toList, Region.binds .any e = true → done listed e.on := fun e he hb => hpre e (by simpa using he) hb
    have anS : ∀ j, bit x j = true → done listed j := anc_in hlt A4 i o x ho hxx hpre
    have anL : ∀ j, bit x j = true → j < i := anc_in (S := fun j => j < i) hlt (fun i' o' hi' ho' e he hb => by have := hlt i' o' ho' e he hb; omega) i o x ho hxx (fun e he hb => hlt i o ho e he hb)
    -- an operation behind this one is not done
    have behind : ∀ (j : Nat) (oj : Oper) (y : Nat), os[j]? = some oj → (ancs [] os)[j]? = some y → bit y i = true → ¬ done listed j := fun j oj y hj hy hb hd =>
      hnd (anc_in hlt A4 j oj y hj hy (fun e he hb' => A4 j oj hd hj e he hb') i hb)
    have hk := (hstep i o ho).1
    have hokd := (hstep i o ho).2.1
    have hsub : ∀ t v, get (restr (F i) (looksT all o)) t = some v → t ≠ dslot → get frA t = some v := by
      intro t v hv ht
      obtain ⟨hmem, hv⟩ := restr_get hv ht
      by_cases hj : ∃ (j : Nat) (oj : Oper), os[j]? = some oj ∧ oj.dst = some t
      · obtain ⟨j, oj, hj, hd⟩ := hj
        have same : ∀ (k : Nat) (ok : Oper), os[k]? = some ok → ok.dst = some t → k = j := fun k ok hk hkd => by
          rcases Nat.lt_trichotomy k j with q | q | q
          · exact absurd hkd (uniq j k oj ok t hj hk q hd)
          · exact q
          · exact absurd hd (uniq k j ok oj t hk hj q hkd)
        have later : i ≤ j → ¬ done listed j → get frA t = some v := fun hij hnj => by
          rw [f1 i (by omega) t (fun k ok hk hok hkd => by have := same k ok hok hkd; omega)] at hv
          rw [A2 t (fun k ok hkd hok hkt => hnj (same k ok hok hkt ▸ hkd))]
          exact hv
        rcases C.look j oj t hj hd hmem with hb | rfl | ⟨y, hy, hb⟩
        · cases hv' : V j with
          | none => have := KOk.vnone (hstep j oj hj).1 hv'; rw [this] at hd; simp at hd
          | some v' =>
            rw [f2 j oj t v' hj hd hv' i (anL j hb) (by omega)] at hv
            simp at hv; subst hv
            exact A1 j oj t v' (anS j hb) hj hd hv'
        · exact later (Nat.le_refl _) hnd
        · have hij : i < j := anc_in (S := fun k => k < j) hlt (fun i' o' hi' ho' e he hb => by have := hlt i' o' ho' e he hb; omega) j oj y hj hy (fun e he hb => hlt j oj hj e he hb) i hb
          exact later (Nat.le_of_lt hij) (behind j oj y hj hy hb)
      · rw [f1 i (by omega) t (fun j oj _ hj' hd => hj ⟨j, oj, hj', hd⟩)] at hv
        rw [A2 t (fun j oj _ hj' hd => hj ⟨j, oj, hj', hd⟩)]
        exact hv
    have hds : get (restr (F i) (looksT all o)) dslot = get frA dslot := by
      rw [restr_dslot C.nods, f1 i (by omega) dslot (fun j oj _ hj => nods j oj hj), A2 dslot (fun j oj _ hj => nods j oj hj)]
    have hfr := hf.sub hsub hds
    have hcnt' : (listed.setIfInBounds i true).toList.count false = fuel := by have := count_set r1; omega
    -- what follows
    have next : ∀ (μ' κ' : Nat → Nat) (m' : Nat) (frA' : Frame) (a' : Act) (w' : World), Ext μ₀ κ₀ μ' κ' h₀ (H m') w₀ w' → HRel P G μ' κ' (H m') w' → FRel N μ' κ' frA' (H m').length a' → m' ≤ os.length →
        frA' = putO frA o.dst (V i) → (∀ c, c < os.length → (K c).isC = true → ((done listed c ∨ c = i) ↔ c < m')) → wpAny P .any all (Post P G N μ₀ κ₀ h₀ w₀ Q) fuel (listed.setIfInBounds i true) a' w' := by
      intro μ' κ' m' frA' a' w' hx' hh' hf' hm' he A3'
      refine ih _ a' w' μ' κ' m' frA' (by simp [hls]) hcnt' hx' hh' hf' hm' ?_ ?_ ?_ ?_
      · intro j oj d v hj hoj hd hv
        rw [he]
        rcases (done_set hil).1 hj with hj | rfl
        · have hne : j ≠ i := fun e => hnd (e ▸ hj)
          have base := A1 j oj d v hj hoj hd hv
          cases hvi : V i with
          | none => simpa [putO] using base
          | some vi =>
            cases hdi : o.dst with
            | none => simpa [putO, Fm.put] using base
            | some di =>
              simp only [putO]
              rw [get_put, if_neg]
              · exact base
              · intro e
                subst e
                rcases Nat.lt_or_gt_of_ne hne with hl | hl
                · exact uniq i j o oj _ ho hoj hl hdi hd
                · exact uniq j i oj o _ hoj ho hl hd hdi
        · rw [ho] at hoj; simp at hoj; subst hoj
          rw [hv, hd]; simp only [putO]; rw [get_put, if_pos rfl]
      · intro t ht
        rw [he, ← A2 t (fun j oj hj => ht j oj ((done_set hil).2 (.inl hj)))]
        cases hvi : V i with
        | none => rfl
        | some vi =>
          cases hdi : o.dst with
          | none => rfl
          | some di =>
            simp only [putO]
            rw [get_put, if_neg (fun e => ht i o ((done_set hil).2 (.inr rfl)) ho (by rw [hdi, e]))]
      · intro c hc hC
        rw [done_set hil]; exact A3' c hc hC
      · intro j oj hj hoj e he hb
        rw [done_set hil]
        rcases (done_set hil).1 hj with hj | rfl
        · exact .inl (A4 j oj hj hoj e he hb)
        · rw [ho] at hoj; simp at hoj; subst hoj
          exact .inl (hpre e he hb)
    have A3n : (K i).isC = false → ∀ c, c < os.length → (K c).isC = true → ((done listed c ∨ c = i) ↔ c < m) := fun hKi c hc hC => by
      have : c ≠ i := fun e => by rw [e, hKi] at hC; simp at hC
      simp [this, A3 c hc hC]
    unfold wpOp
    rw [hget, ho]
    simp only []
    cases hKi : K i with
    | s =>
      rw [hKi] at hk
      obtain ⟨g1, g2, g3⟩ := hk
      rw [if_neg (by rw [gw_ok hfr g1]; simp)]
      exact next μ κ m _ _ w hx hh (by rw [g2]; exact hf.put hokd (v := .tup []) trivial) hmn rfl (A3n (by rw [hKi]; rfl))
    | q b =>
      rw [hKi] at hk
      obtain ⟨g1, g2, g3⟩ := hk
      rw [if_pos (gw_ok hfr g1)]
      refine .inl ?_
      have hg : ∃ g, H m = baseH h b ++ g := by
        cases b with
        | false => exact ⟨H m, rfl⟩
        | true =>
          have key : ∀ y, y ≤ m → ∃ g, H y = h ++ g := by
            intro y
            induction y with
            | zero => intro _; exact ⟨[], by simp [hH0]⟩
            | succ y ihy =>
              intro hy
              obtain ⟨g, hg⟩ := ihy (by omega)
              have hoy : os[y]? = some os[y] := List.getElem?_eq_getElem (by omega)
              have hky := (hstep y _ hoy).1
              cases hKy : K y with
              | s => exact ⟨g, by rw [KOk.same hky (by rw [hKy]; rfl), hg]⟩
              | q b => exact ⟨g, by rw [KOk.same hky (by rw [hKy]; rfl), hg]⟩
              | c e =>
                cases e with
                | true =>
                  rw [hKy] at hky
                  obtain ⟨g', hg'⟩ := hky.2.2 rfl
                  exact ⟨g ++ g', by rw [hg', hg, List.append_assoc]⟩
                | false =>
                  exfalso
                  have hdy : done listed y := (A3 y (by omega) (by rw [hKy]; rfl)).2 (by omega)
                  have hne : y ≠ i := fun e => hnd (e ▸ hdy)
                  rcases Nat.lt_or_gt_of_ne hne with hl | hl
                  · have := C.qm y _ hoy hl (by rw [hKi]; rfl)
                    rw [hKy] at this; simp [Kd.isM] at this
                  · obtain ⟨xy, hxy⟩ := anc y _ hoy
                    exact behind y _ xy hoy hxy ((hchk y _ xy hoy hxy).mq i o ho hl (by rw [hKy]; rfl) (by rw [hKi]; rfl)) hdy
          exact key m (Nat.le_refl _)
      obtain ⟨g, hg⟩ := hg
      have op := g3 g
      rw [← hg] at op
      refine op.2 N μ κ a w _ _ hh hfr ?_
      intro μ' κ' w' hh' hx'
      refine ⟨fun v hv hle => ?_, fun hv => ?_⟩
      · exact next μ' κ' m _ _ w' (hx.trans hx') hh' ((hf.world hx'.agree hx'.len).put hokd hle) hmn (by rw [hv]; rfl) (A3n (by rw [hKi]; rfl))
      · exact next μ' κ' m _ _ w' (hx.trans hx') hh' (hf.world hx'.agree hx'.len) hmn (by rw [hv]; rfl) (A3n (by rw [hKi]; rfl))
    | c e =>
      rw [hKi] at hk
      obtain ⟨g1, g2, g3⟩ := hk
      rw [if_pos (gw_ok hfr g1)]
      refine .inl ?_
      have hbe : ∀ c, c < os.length → (K c).isC = true → i < c → ¬ done listed c := fun c hc hC hl => by
        have hoc : os[c]? = some os[c] := List.getElem?_eq_getElem hc
        obtain ⟨xc, hxc⟩ := anc c _ hoc
        exact behind c _ xc hoc hxc ((hchk c _ xc hoc hxc).cc i o ho hl hC (by rw [hKi]; rfl))
      have hah : ∀ c, c < os.length → (K c).isC = true → c < i → done listed c := fun c hc hC hl =>
        anS c (C.cc c _ (List.getElem?_eq_getElem hc) hl (by rw [hKi]; rfl) hC)
      have hHm : H m = H i := by
        rcases Nat.le_total m i with hl | hl
        · refine (heq m i hl (by omega) fun c h1 h2 => ?_).symm
          cases hC : (K c).isC with
          | false => rfl
          | true => have := (A3 c (by omega) hC).1 (hah c (by omega) hC h2); omega
        · refine heq i m hl hmn fun c h1 h2 => ?_
          cases hC : (K c).isC with
          | false => rfl
          | true =>
            have hd := (A3 c (by omega) hC).2 h2
            by_cases e : c = i
            · exact absurd (e ▸ hd) hnd
            · exact absurd hd (hbe c (by omega) hC (by omega))
      rw [← hHm] at g2
      refine g2.2 N μ κ a w _ _ hh hfr ?_
      intro μ' κ' w' hh' hx'
      have A3' : ∀ c, c < os.length → (K c).isC = true → ((done listed c ∨ c = i) ↔ c < i + 1) := fun c hc hC => by
        constructor
        · rintro (hd | rfl)
          · rcases Nat.lt_or_ge i c with hl | hl
            · exact absurd hd (hbe c hc hC hl)
            · omega
          · omega
        · intro hl
          by_cases e : c = i
          · exact .inr e
          · exact .inl (hah c hc hC (by omega))
      refine ⟨fun v hv hle => ?_, fun hv => ?_⟩
      · exact next μ' κ' (i + 1) _ _ w' (hx.trans hx') hh' ((hf.world hx'.agree hx'.len).put hokd hle) hin (by rw [hv]; rfl) A3'
      · exact next μ' κ' (i + 1) _ _ w' (hx.trans hx') hh' (hf.world hx'.agree hx'.len) hin (by rw [hv]; rfl) A3'
end
end Go.Fm
