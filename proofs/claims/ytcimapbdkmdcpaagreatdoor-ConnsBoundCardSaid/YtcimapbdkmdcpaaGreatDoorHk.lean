/- A part of the proofs over this seat: what functions of the program compute, shown once each. No statement of the seat is closed in this text. -/
import Derived.Test.YtcimapbdkmdcpaaGreatDoorHj
set_option linter.all false
set_option linter.unusedVariables false
namespace Go.Proofs
open Go.Fm
attribute [local irreducible] WP opsWP opsGo CallTo RetTo PureF StepTo StoreTo thenQ blkQ loopQ bodyQ DrK
variable (G : Nat → Nat → Option AV)

/-- A host of the statements. -/
def hostOf (c : UInt8) : List UInt8 := [c, 46, 116, 101, 115, 116]
theorem pure_run {f : FuncId} {vs : List AV} {v : AV} (hv : (((runF Tryz.tb G (inL Tryz.el) Tryz.xt Tryz.ft 300).call f vs []).map (·.1)) = some v) (ha : AVs.gr vs = true) (hg : v.gr = true) : PureF Tryz.prog G f vs v := by
  cases hr : (runF Tryz.tb G (inL Tryz.el) Tryz.xt Tryz.ft 300).call f vs [] with
  | none => rw [hr] at hv; simp at hv
  | some r =>
    obtain ⟨v', h'⟩ := r
    rw [hr] at hv
    simp at hv; subst hv
    have := Tryz.run G 300 hr
    unfold RetTo at this
    exact PureF.of (this.mono fun _ _ q => q.1) (AVs.gr_ok ha) (AV.gr_ok hg)
theorem parse97 : PureF Tryz.prog G 28 [.str (hostOf 97)] (.tup [.str (hostOf 97), .int .i64 0]) := pure_run G (by kernel_rfl) rfl rfl
theorem parse98 : PureF Tryz.prog G 28 [.str (hostOf 98)] (.tup [.str (hostOf 98), .int .i64 0]) := pure_run G (by kernel_rfl) rfl rfl
theorem parse99 : PureF Tryz.prog G 28 [.str (hostOf 99)] (.tup [.str (hostOf 99), .int .i64 0]) := pure_run G (by kernel_rfl) rfl rfl
theorem parse100 : PureF Tryz.prog G 28 [.str (hostOf 100)] (.tup [.str (hostOf 100), .int .i64 0]) := pure_run G (by kernel_rfl) rfl rfl
theorem parse101 : PureF Tryz.prog G 28 [.str (hostOf 101)] (.tup [.str (hostOf 101), .int .i64 0]) := pure_run G (by kernel_rfl) rfl rfl
theorem parse102 : PureF Tryz.prog G 28 [.str (hostOf 102)] (.tup [.str (hostOf 102), .int .i64 0]) := pure_run G (by kernel_rfl) rfl rfl
theorem parse103 : PureF Tryz.prog G 28 [.str (hostOf 103)] (.tup [.str (hostOf 103), .int .i64 0]) := pure_run G (by kernel_rfl) rfl rfl
theorem parse104 : PureF Tryz.prog G 28 [.str (hostOf 104)] (.tup [.str (hostOf 104), .int .i64 0]) := pure_run G (by kernel_rfl) rfl rfl
theorem parse105 : PureF Tryz.prog G 28 [.str (hostOf 105)] (.tup [.str (hostOf 105), .int .i64 0]) := pure_run G (by kernel_rfl) rfl rfl
theorem parse106 : PureF Tryz.prog G 28 [.str (hostOf 106)] (.tup [.str (hostOf 106), .int .i64 0]) := pure_run G (by kernel_rfl) rfl rfl
theorem parse107 : PureF Tryz.prog G 28 [.str (hostOf 107)] (.tup [.str (hostOf 107), .int .i64 0]) := pure_run G (by kernel_rfl) rfl rfl
theorem parse108 : PureF Tryz.prog G 28 [.str (hostOf 108)] (.tup [.str (hostOf 108), .int .i64 0]) := pure_run G (by kernel_rfl) rfl rfl
theorem parse109 : PureF Tryz.prog G 28 [.str (hostOf 109)] (.tup [.str (hostOf 109), .int .i64 0]) := pure_run G (by kernel_rfl) rfl rfl
theorem parse110 : PureF Tryz.prog G 28 [.str (hostOf 110)] (.tup [.str (hostOf 110), .int .i64 0]) := pure_run G (by kernel_rfl) rfl rfl
theorem parse111 : PureF Tryz.prog G 28 [.str (hostOf 111)] (.tup [.str (hostOf 111), .int .i64 0]) := pure_run G (by kernel_rfl) rfl rfl
theorem parse112 : PureF Tryz.prog G 28 [.str (hostOf 112)] (.tup [.str (hostOf 112), .int .i64 0]) := pure_run G (by kernel_rfl) rfl rfl
theorem parse113 : PureF Tryz.prog G 28 [.str (hostOf 113)] (.tup [.str (hostOf 113), .int .i64 0]) := pure_run G (by kernel_rfl) rfl rfl
theorem parse114 : PureF Tryz.prog G 28 [.str (hostOf 114)] (.tup [.str (hostOf 114), .int .i64 0]) := pure_run G (by kernel_rfl) rfl rfl
theorem parse115 : PureF Tryz.prog G 28 [.str (hostOf 115)] (.tup [.str (hostOf 115), .int .i64 0]) := pure_run G (by kernel_rfl) rfl rfl
theorem parse116 : PureF Tryz.prog G 28 [.str (hostOf 116)] (.tup [.str (hostOf 116), .int .i64 0]) := pure_run G (by kernel_rfl) rfl rfl
theorem parse_spec (c : UInt8) (h : 97 ≤ c ∧ c ≤ 116) : PureF Tryz.prog G 28 [.str (hostOf c)] (.tup [.str (hostOf c), .int .i64 0]) := by
  have : c.toNat < 256 := c.toNat_lt
  have h1 : 97 ≤ c.toNat ∧ c.toNat ≤ 116 := ⟨by simpa [UInt8.le_iff_toNat_le] using h.1, by simpa [UInt8.le_iff_toNat_le] using h.2⟩
  obtain ⟨n, hn⟩ : ∃ n, c.toNat = n := ⟨_, rfl⟩
  have hc : c = UInt8.ofNat n := by rw [← hn]; simp
  rw [hn] at h1
  subst hc
  rcases h1 with ⟨a, b⟩
  have hn : n = 97 ∨ n = 98 ∨ n = 99 ∨ n = 100 ∨ n = 101 ∨ n = 102 ∨ n = 103 ∨ n = 104 ∨ n = 105 ∨ n = 106 ∨ n = 107 ∨ n = 108 ∨ n = 109 ∨ n = 110 ∨ n = 111 ∨ n = 112 ∨ n = 113 ∨ n = 114 ∨ n = 115 ∨ n = 116 := by omega
  rcases hn with rfl | rfl | rfl | rfl | rfl | rfl | rfl | rfl | rfl | rfl | rfl | rfl | rfl | rfl | rfl | rfl | rfl | rfl | rfl | rfl
  all_goals first | exact parse97 G | exact parse98 G | exact parse99 G | exact parse100 G | exact parse101 G | exact parse102 G | exact parse103 G | exact parse104 G | exact parse105 G | exact parse106 G | exact parse107 G | exact parse108 G | exact parse109 G | exact parse110 G | exact parse111 G | exact parse112 G | exact parse113 G | exact parse114 G | exact parse115 G | exact parse116 G

set_option maxRecDepth 100000 in
set_option maxHeartbeats 4000000 in
theorem may_spec (k : Ky) (c : UInt8) (hc : 97 ≤ c ∧ c ≤ 116) (hh : k.host = hostOf c) (hp : 0 ≤ k.port ∧ k.port ≤ 65535) : PureF Tryz.prog G 15 [.agg k.cells] (.bool true) := by
  have hP := parse_spec G c hc
  rw [← hh] at hP
  refine pure_body Tryz.tbOk Tryz.func15 rfl Tryz.ntmps15 rfl rfl rfl ⟨⟨trivial, trivial, trivial, trivial⟩, trivial⟩ trivial ?_
  dsimp only [initF]
  repeat' (first
    | refine f_seq ?_
    | refine f_region ?_
    | refine f_draw Tryz.mixed ?_
    | (refine ops_go rfl ?_; first
        | (apply g_callP; exact rfl; exact rfl; exact Tryz.fnOk rfl; exact hP)
        | (apply g_sum Tryz.tbOk; exact rfl; exact rfl; exact rfl; exact rfl; exact rfl; (constructor <;> omega))
        | (apply g_rem Tryz.tbOk; exact rfl; exact rfl; exact rfl; exact rfl; (first | omega | (dsimp only; omega)))
        | (apply g_quo Tryz.tbOk; exact rfl; exact rfl; exact rfl; exact rfl; (first | omega | (dsimp only; omega)); (constructor <;> omega))
        | (apply g_cat; exact rfl; exact rfl; exact rfl; (first | omega | (simp; done) | (simp; omega)))
        | (apply g_cmp Tryz.tbOk; exact rfl; exact rfl; exact rfl; exact rfl; exact rfl; intro c hc; first | (have hb := BD.yes hc (by omega); subst hb; clear hc) | (have hb := BD.no hc (by omega); subst hb; clear hc) | skip)
        | (apply g_cmpS Tryz.tbOk; exact rfl; exact rfl; exact rfl; exact rfl; intro c hc)
        | (apply g_eqW Tryz.tbOk Tryz.elOk; exact rfl; exact rfl; exact rfl; exact rfl; exact rfl; exact rfl; intro c hc)
        | (apply g_conv Tryz.tbOk; exact rfl; exact rfl; exact rfl; exact rfl; exact rfl; (constructor <;> omega))
        | (apply x_set Tryz.tbOk Tryz.elOk Tryz.xtOk; exact rfl; exact rfl)
        | (apply x_grow Tryz.tbOk Tryz.elOk Tryz.xtOk; exact rfl; exact rfl)
        | (apply x_store Tryz.tbOk Tryz.elOk Tryz.xtOk; exact rfl)
        | (apply x_setN Tryz.tbOk Tryz.elOk Tryz.xtOk; exact rfl)
        | (apply g_ixs Tryz.tbOk; exact rfl; exact rfl; exact rfl; exact rfl; exact rfl; omega)
        | (apply g_ips Tryz.tbOk; exact rfl; exact rfl; exact rfl; exact rfl; exact rfl; exact rfl; exact rfl; (first | omega | (dsimp only; omega)))
        | (apply g_sls Tryz.tbOk; exact rfl; exact rfl; exact rfl; exact rfl; exact rfl; exact rfl; omega)
        | (apply g_ixg Tryz.tbOk; exact rfl; exact rfl; exact rfl; exact rfl; exact rfl; exact rfl; (first | omega | (dsimp only; omega))))
    | refine ops_skip rfl rfl ?_
    | refine ops_nil ?_
    | refine then_n ?_
    | refine f_condT rfl ?_
    | refine f_condF rfl ?_
    | refine f_block ?_
    | refine f_exit ?_
    | refine f_ret ?_
    | refine f_skip ?_
    | refine DrK.nil rfl ?_
    | refine d_skip rfl rfl ?_
    | refine d_skipN rfl ?_
    | (apply d_callP; exact rfl; exact rfl; exact rfl; exact Tryz.fnOk rfl; exact hP)
    | (apply d_any; exact rfl; exact rfl; exact st_sum Tryz.tbOk rfl rfl rfl rfl (by constructor <;> omega))
    | (refine d_bd rfl rfl (st_cmp Tryz.tbOk rfl rfl rfl rfl) ?_; intro c hc; first | (have hb := BD.yes hc (by omega); subst hb; clear hc) | (have hb := BD.no hc (by omega); subst hb; clear hc) | skip)
    | (refine d_bd rfl rfl (st_cmpS Tryz.tbOk rfl rfl rfl) ?_; intro c hc)
    | (refine d_bd rfl rfl (st_eqW Tryz.tbOk Tryz.elOk rfl rfl rfl rfl rfl) ?_; intro c hc)
    | (apply d_set Tryz.tbOk Tryz.elOk Tryz.xtOk; exact rfl; exact rfl; exact rfl)
    | (apply d_ips Tryz.tbOk; exact rfl; exact rfl; exact rfl; exact rfl; exact rfl; exact rfl; exact rfl; exact rfl; (first | omega | (dsimp only; omega)))
    | (apply d_ixg Tryz.tbOk; exact rfl; exact rfl; exact rfl; exact rfl; exact rfl; exact rfl; exact rfl; (first | omega | (dsimp only; omega)))
    | (apply d_grow Tryz.tbOk Tryz.elOk Tryz.xtOk; exact rfl; exact rfl; exact rfl)
    | (apply d_store Tryz.tbOk Tryz.elOk Tryz.xtOk; exact rfl; exact rfl)
    | refine then_x ?_
    | refine then_r ?_
    | refine blk_n ?_
    | refine blk_eq rfl ?_
    | refine blk_ne rfl ?_
    | refine blk_r ?_
    | refine loop_x ?_
    | refine loop_r ?_
    | refine cut_x ?_
    | refine cut_r ?_
    | refine body_ret rfl rfl ?_
    | refine body_end rfl rfl ?_
    | exact (rfl : AEnd.ret _ = AEnd.ret _)
    | exact ⟨rfl, _, rfl⟩
    | exact ⟨rfl, HFin.refl _⟩
    | (rename BD _ _ => hbd; cases hbd)
    | (rename ¬ _ = _ => hq; exact absurd rfl hq))
end Go.Proofs
