/- PROVED HERE: footmanlaw19.ConnsBound returns true for each pair of slices of bytes and leaves its arguments as they were (the row, and the tied card). Conditions: those of the given row and card; none other. -/
import Derived.Test.YtcimapbdkmdcpaaGreatDoorHo
import Derived.Test.YtcimapbdkmdcpaaGreatDoorFmZh
import Derived.Test.YtcimapbdkmdcpaaGreatDoorCards
import Derived.Test.YtcimapbdkmdcpaaGreatDoorTie
import Derived.Handy
import Derived.Lay
import Derived.SevenTiedAt
import Derived.Stop.Joined
set_option linter.all false
set_option linter.unusedVariables false
namespace Go.Proofs
open Go.Fm
attribute [local irreducible] WP opsWP opsGo CallTo RetTo PureF StepTo StoreTo thenQ blkQ loopQ bodyQ
variable {G : Nat → Nat → Option AV}

set_option maxRecDepth 100000 in
set_option maxHeartbeats 400000 in
/-- The law's function, whatever comes in, answers true. -/
theorem bound_all (T Gs : List UInt8) (tv gv : AV) (hT : InSl u8E G T tv) (hG : InSl u8E G Gs gv) :
    CallTo Tryz.prog G 3 [tv, gv] [] (fun e _ => e = .ret (.bool true)) := by
  rcases Nat.lt_or_ge 300 T.length with h | h
  · have htr := hT.ren
    have hgvr := hG.ren
    refine call_body Tryz.tbOk Tryz.func3 rfl Tryz.ntmps3 rfl rfl rfl ?_
    dsimp only [initF, List.length_cons, List.length_nil, Nat.zero_add]
    repeat' (first
      | refine f_seq ?_
      | (refine f_regionL Tryz.lv3 ?_; show opsWP _ _ _ _ _ _ _ _ _)
      | (refine f_drawL Tryz.lv3 Tryz.mixed ?_; show DrK _ _ _ _ _ _ _ _ _ _)
      | (refine ops_go rfl ?_; first
          | (apply g_len Tryz.tbOk; exact rfl; exact rfl; exact rfl; exact rfl; exact hT.len)
          | (apply g_callP; exact rfl; exact rfl; exact Tryz.fnOk rfl; exact lives_spec G)
          | (apply g_sum Tryz.tbOk; exact rfl; exact rfl; exact rfl; exact rfl; exact rfl; (constructor <;> omega))
          | (apply g_rem Tryz.tbOk; exact rfl; exact rfl; exact rfl; exact rfl; (first | omega | (dsimp only; omega)))
          | (apply g_quo Tryz.tbOk; exact rfl; exact rfl; exact rfl; exact rfl; (first | omega | (dsimp only; omega)); (constructor <;> omega))
          | (apply g_cat; exact rfl; exact rfl; exact rfl; (first | omega | (simp; done) | (simp; omega)))
          | (apply g_cmp Tryz.tbOk; exact rfl; exact rfl; exact rfl; exact rfl; exact rfl; intro c hc; first | (have hb := BD.yes hc (by omega); subst hb; clear hc) | (have hb := BD.no hc (by omega); subst hb; clear hc) | skip)
          | (apply g_cmpS Tryz.tbOk; exact rfl; exact rfl; exact rfl; exact rfl; intro c hc)
          | (apply g_eqW Tryz.tbOk Tryz.elOk; exact rfl; exact rfl; exact rfl; exact rfl; exact rfl; exact rfl; intro c hc)
          | (apply g_conv Tryz.tbOk; exact rfl; exact rfl; exact rfl; exact rfl; exact rfl; (constructor <;> omega))
          | (apply x_set Tryz.tbOk Tryz.elOk Tryz.xtOk; exact rfl; exact rfl)
          | (apply x_grow Tryz.tbOk Tryz.elOk Tryz.xtOk; exact rfl; exact rfl)
          | (apply x_store Tryz.tbOk Tryz.elOk Tryz.xtOk; exact rfl)
          | (apply x_setN Tryz.tbOk Tryz.elOk Tryz.xtOk; exact rfl)
          | (apply g_ixs Tryz.tbOk; exact rfl; exact rfl; exact rfl; exact rfl; exact rfl; omega)
          | (apply g_ips Tryz.tbOk; exact rfl; exact rfl; exact rfl; exact rfl; exact rfl; exact rfl; exact rfl; (first | omega | (dsimp only; omega)))
          | (apply g_sls Tryz.tbOk; exact rfl; exact rfl; exact rfl; exact rfl; exact rfl; exact rfl; omega)
          | (apply g_ixg Tryz.tbOk; exact rfl; exact rfl; exact rfl; exact rfl; exact rfl; exact rfl; (first | omega | (dsimp only; omega))))
      | refine ops_skip rfl rfl ?_
      | refine ops_nil ?_
      | refine then_n ?_
      | refine f_condT rfl ?_
      | refine f_condF rfl ?_
      | refine f_block ?_
      | refine f_exit ?_
      | refine f_ret ?_
      | refine f_skip ?_
      | refine DrK.nil rfl ?_
      | refine d_skip rfl rfl ?_
      | refine d_skipN rfl ?_
      | (apply d_callP; exact rfl; exact rfl; exact rfl; exact Tryz.fnOk rfl; exact lives_spec G)
      | (apply d_any; exact rfl; exact rfl; exact st_sum Tryz.tbOk rfl rfl rfl rfl (by constructor <;> omega))
      | (refine d_bd rfl rfl (st_cmp Tryz.tbOk rfl rfl rfl rfl) ?_; intro c hc; first | (have hb := BD.yes hc (by omega); subst hb; clear hc) | (have hb := BD.no hc (by omega); subst hb; clear hc) | skip)
      | (refine d_bd rfl rfl (st_cmpS Tryz.tbOk rfl rfl rfl) ?_; intro c hc)
      | (refine d_bd rfl rfl (st_eqW Tryz.tbOk Tryz.elOk rfl rfl rfl rfl rfl) ?_; intro c hc)
      | (apply d_set Tryz.tbOk Tryz.elOk Tryz.xtOk; exact rfl; exact rfl; exact rfl)
      | (apply d_ips Tryz.tbOk; exact rfl; exact rfl; exact rfl; exact rfl; exact rfl; exact rfl; exact rfl; exact rfl; (first | omega | (dsimp only; omega)))
      | (apply d_ixg Tryz.tbOk; exact rfl; exact rfl; exact rfl; exact rfl; exact rfl; exact rfl; exact rfl; (first | omega | (dsimp only; omega)))
      | (apply d_grow Tryz.tbOk Tryz.elOk Tryz.xtOk; exact rfl; exact rfl; exact rfl)
      | (apply d_store Tryz.tbOk Tryz.elOk Tryz.xtOk; exact rfl; exact rfl)
      | refine then_x ?_
      | refine then_r ?_
      | refine blk_n ?_
      | refine blk_eq rfl ?_
      | refine blk_ne rfl ?_
      | refine blk_r ?_
      | refine loop_x ?_
      | refine loop_r ?_
      | refine cut_x ?_
      | refine cut_r ?_
      | refine body_ret rfl rfl ?_
      | refine body_end rfl rfl ?_
      | exact (rfl : AEnd.ret _ = AEnd.ret _)
      | exact ⟨rfl, _, rfl⟩
      | exact ⟨rfl, HFin.refl _⟩
      | (rename BD _ _ => hbd; cases hbd)
      | (rename ¬ _ = _ => hq; exact absurd rfl hq))
  · exact bound_short G T Gs tv gv hT hG h
end Go.Proofs
namespace Go.Proofs.YtcimapbdkmdcpaaGreatDoor
open Go.ChangeShapes Go.WideShapes Go.ChangeAt Go.RowKit Go.Fm
theorem own : ownKnob Tryz.prog.godebug = none := by kernel_rfl
theorem laidOut : laidOutB Tryz.prog = true := by kernel_rfl
theorem mapsRow : mapsRowed Tryz.prog = true := by kernel_rfl
theorem slcs : slcB Tryz.prog = true := by kernel_rfl
set_option maxRecDepth 100000 in
/-- The row's step: for each world and each pair of slices of bytes. -/
theorem bound_lifted (os : Os) (started : os.Started) (H : Type) (enc : TypeId × Value → H) :
    ReturnsInHanded {} Tryz.checked os 3 .any (fun w args => (Rows.connsBoundSpec.pre enc Tryz.prog Tryz.f3 Rows.connsBoundRow.domain false w args ∧ laidMetH Tryz.prog Rows.connsBoundRow.laid w) ∧ sizedMet enc Tryz.prog Tryz.f3 (OpenSpec.ofChange Rows.connsBoundSpec) false w args)
      (Rows.connsBoundSpec.post enc Tryz.prog Tryz.f3 false true false false) := by
  refine returnsInHanded_of_change_and (C := Tryz.checked) (X := fun w _ => laidMetH Tryz.prog Rows.connsBoundRow.laid w) (fun _ _ _ hh h => h.of_heap hh) own started (by kernel_rfl) Tryz.func3
    (ChangeSpec.witness_shaped (enc := enc) (C := Tryz.checked) (os := os) (X := fun w _ => laidMetH Tryz.prog Rows.connsBoundRow.laid w) false (World.laidAll Tryz.prog os Rows.connsBoundRow.laid) #[.slice none 0 0, .slice none 0 0] 8 (World.laidAll_os _ _ _)
      (World.shaped_of_ZipB (by kernel_rfl) (by kernel_rfl)) (by kernel_rfl) (by kernel_rfl) (by kernel_rfl)
      (by rw [MakeChecks.laidMetH_plain _ _ _ (by kernel_rfl)]; exact laidMet_laidAll _ (by kernel_rfl) (by kernel_rfl))) ?_
  intro W base args ds gs before hval0 hW _ _ hL _
  have hval : ∀ (j : Nat) t v, Tryz.f3.params[j]? = some t → args[j]? = some v → Value.okWide Tryz.prog W .any base t v := hval0
  have hW' := hW
  obtain ⟨p, q, hA0, hV, rfl, _, _⟩ := hW
  have hA : DataW.TrodAll enc Tryz.prog W 0 (fun _ => true) true Tryz.f3.params.toList args.toList ds p := hA0
  rw [Tryz.params3] at hA hval
  obtain ⟨v0, vs0, d0, ds0, p0, q0, hargs, rfl, rfl, h0, r0⟩ := trodAll_cons hA
  obtain ⟨v1, vs1, d1, ds1, p1, q1, rfl, rfl, rfl, h1, r1⟩ := trodAll_cons r0
  obtain ⟨rfl, rfl, rfl⟩ := trodAll_nil r1
  obtain rfl : args = #[v0, v1] := by cases args; simp_all
  obtain ⟨T, tv, hT, eT⟩ := in_bytes (t := 22) (e := 5) (by kernel_rfl) (by kernel_rfl) (by kernel_rfl) (hval 0 _ v0 rfl rfl) h0
  obtain ⟨Gs, gv, hG, eG⟩ := in_bytes (t := 22) (e := 5) (by kernel_rfl) (by kernel_rfl) (by kernel_rfl) (hval 1 _ v1 rfl rfl) h1
  obtain ⟨rfl, rfl⟩ := trodVars_none hV
  have hc := bound_all (G := worldG W) T Gs tv gv hT hG (fun _ => 0) (fun _ => 0) W (HRel.start _ _ _ _) ⟨hT.le _, hG.le _, trivial⟩
  have ea : (concs (fun _ => 0) (fun _ => 0) [tv, gv]).toArray = #[v0, v1] := by simp only [concs, eT, eG]
  rw [ea] at hc
  refine hc.mono fun e W' ⟨μ', κ', e', h', he', her, hh, hx⟩ => ?_
  subst he'
  obtain ⟨rfl, _⟩ := her
  exact ⟨_, rfl, law_post (t := 4) laidOut mapsRow slcs (by rw [Tryz.params3]; exact of_decide_eq_true (by kernel_rfl)) (by kernel_rfl) (by kernel_rfl) hW' rfl rfl hx.os hx.output hx.start⟩

theorem bound_said : Rows.ConnsBoundSaid :=
  OpenClaim.holds_of_wide 3 Tryz.f3 rfl rfl rfl rfl rfl rfl rfl ⟨rfl, rfl, rfl, rfl, rfl⟩ rfl rfl rfl rfl rfl (by kernel_rfl) Tryz.func3 (by kernel_rfl)
    (of_decide_eq_true (by kernel_rfl)) (by unfold Func.isWrapper; first | (rw [if_pos (by decide +kernel)]; kernel_rfl) | (rw [if_neg (by decide +kernel)]; exact ⟨rfl, rfl⟩))
    (fun os started H enc _ => bound_lifted os started H enc)
/-- The card. -/
theorem bound_card : Rows.ConnsBoundCardSaid :=
  Claim7.holds_tied_plain_at .later [] _ _ _ _ bound_said (fun _ h => by cases h) (by kernel_rfl) (fun _ h => by cases h) connsBound_row_tie rfl ⟨rfl, rfl⟩ (by kernel_rfl) rfl
    (fun f fn hf hfn => by
      obtain rfl : f = 3 := Option.some.inj ((show Tryz.prog.funcNamed "footman/footmanlaw19.ConnsBound" = some 3 by kernel_rfl).symm.trans hf) |>.symm
      obtain rfl : fn = Tryz.f3 := (Option.some.inj (Tryz.func3.symm.trans hfn)).symm
      exact ⟨by kernel_rfl, fun j t ht => by
        rw [Tryz.params3] at ht
        have hm : t ∈ [22] := by
          have := Array.mem_of_getElem? ht
          simp at this
          simp [this]
        have hall : ([22].all fun u => !Tryz.prog.wantsStandIn u) = true := by kernel_rfl
        exact (show Tryz.prog.wantsStandIn t = false by simpa using List.all_eq_true.1 hall t hm)⟩)
    (by kernel_rfl)
end Go.Proofs.YtcimapbdkmdcpaaGreatDoor
