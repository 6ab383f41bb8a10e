/- A part of the proofs over this seat: what functions of the program compute, shown once each. No statement of the seat is closed in this text. -/
import Derived.Test.YtcimapbdkmdcpaaGreatDoorHb
set_option linter.all false
set_option linter.unusedVariables false
namespace Go.Proofs
open Go.Fm
attribute [local irreducible] WP opsWP opsGo CallTo RetTo PureF StepTo StoreTo thenQ blkQ loopQ bodyQ DrK
variable (G : Nat → Nat → Option AV)

/-- A place. -/
structure Ky where
  sealed : Bool
  host : List UInt8
  port : Int
  deriving DecidableEq
def Cn.k (c : Cn) : Ky := ⟨c.sealed, c.host, c.port⟩
abbrev Ky.cells (k : Ky) : List AV := [.bool k.sealed, .str k.host, .int .i64 k.port]

set_option maxRecDepth 100000 in
set_option maxHeartbeats 400000 in
theorem mine_spec (c : Cn) (k : Ky) (wr : Bool) : RetTo Tryz.prog G 17 [c.v, .ptr 0 0] [.cells k.cells 28 false wr] (.bool (decide (c.k = k))) [.cells k.cells 28 false wr] := by
  refine RetTo.view (call_body Tryz.tbOk Tryz.func17 rfl Tryz.ntmps17 rfl rfl rfl ?_)
  dsimp only [initF, List.length_cons, List.length_nil, Nat.zero_add]
  repeat' (first
    | refine f_seq ?_
    | refine f_region ?_
    | refine f_draw Tryz.mixed ?_
    | (refine ops_go rfl ?_; first
        | (apply g_sum Tryz.tbOk; exact rfl; exact rfl; exact rfl; exact rfl; exact rfl; (constructor <;> omega))
        | (apply g_rem Tryz.tbOk; exact rfl; exact rfl; exact rfl; exact rfl; (first | omega | (dsimp only; omega)))
        | (apply g_quo Tryz.tbOk; exact rfl; exact rfl; exact rfl; exact rfl; (first | omega | (dsimp only; omega)); (constructor <;> omega))
        | (apply g_cat; exact rfl; exact rfl; exact rfl; (first | omega | (simp; done) | (simp; omega)))
        | (apply g_cmp Tryz.tbOk; exact rfl; exact rfl; exact rfl; exact rfl; exact rfl; intro c hc; first | (have hb := BD.yes hc (by omega); subst hb; clear hc) | (have hb := BD.no hc (by omega); subst hb; clear hc) | skip)
        | (apply g_cmpS Tryz.tbOk; exact rfl; exact rfl; exact rfl; exact rfl; intro c hc)
        | (apply g_eqW Tryz.tbOk Tryz.elOk; exact rfl; exact rfl; exact rfl; exact rfl; exact rfl; exact rfl; intro c hc)
        | (apply g_conv Tryz.tbOk; exact rfl; exact rfl; exact rfl; exact rfl; exact rfl; (constructor <;> omega))
        | (apply x_set Tryz.tbOk Tryz.elOk Tryz.xtOk; exact rfl; exact rfl)
        | (apply x_grow Tryz.tbOk Tryz.elOk Tryz.xtOk; exact rfl; exact rfl)
        | (apply x_store Tryz.tbOk Tryz.elOk Tryz.xtOk; exact rfl)
        | (apply x_setN Tryz.tbOk Tryz.elOk Tryz.xtOk; exact rfl)
        | (apply g_ixs Tryz.tbOk; exact rfl; exact rfl; exact rfl; exact rfl; exact rfl; omega)
        | (apply g_ips Tryz.tbOk; exact rfl; exact rfl; exact rfl; exact rfl; exact rfl; exact rfl; exact rfl; (first | omega | (dsimp only; omega)))
        | (apply g_sls Tryz.tbOk; exact rfl; exact rfl; exact rfl; exact rfl; exact rfl; exact rfl; omega)
        | (apply g_ixg Tryz.tbOk; exact rfl; exact rfl; exact rfl; exact rfl; exact rfl; exact rfl; (first | omega | (dsimp only; omega))))
    | refine ops_skip rfl rfl ?_
    | refine ops_nil ?_
    | refine then_n ?_
    | refine f_condT rfl ?_
    | refine f_condF rfl ?_
    | refine f_block ?_
    | refine f_exit ?_
    | refine f_ret ?_
    | refine f_skip ?_
    | refine DrK.nil rfl ?_
    | refine d_skip rfl rfl ?_
    | refine d_skipN rfl ?_
    | (apply d_any; exact rfl; exact rfl; exact st_sum Tryz.tbOk rfl rfl rfl rfl (by constructor <;> omega))
    | (refine d_bd rfl rfl (st_cmp Tryz.tbOk rfl rfl rfl rfl) ?_; intro c hc; first | (have hb := BD.yes hc (by omega); subst hb; clear hc) | (have hb := BD.no hc (by omega); subst hb; clear hc) | skip)
    | (refine d_bd rfl rfl (st_cmpS Tryz.tbOk rfl rfl rfl) ?_; intro c hc)
    | (refine d_bd rfl rfl (st_eqW Tryz.tbOk Tryz.elOk rfl rfl rfl rfl rfl) ?_; intro c hc)
    | (apply d_set Tryz.tbOk Tryz.elOk Tryz.xtOk; exact rfl; exact rfl; exact rfl)
    | (apply d_ips Tryz.tbOk; exact rfl; exact rfl; exact rfl; exact rfl; exact rfl; exact rfl; exact rfl; exact rfl; (first | omega | (dsimp only; omega)))
    | (apply d_ixg Tryz.tbOk; exact rfl; exact rfl; exact rfl; exact rfl; exact rfl; exact rfl; exact rfl; (first | omega | (dsimp only; omega)))
    | (apply d_grow Tryz.tbOk Tryz.elOk Tryz.xtOk; exact rfl; exact rfl; exact rfl)
    | (apply d_store Tryz.tbOk Tryz.elOk Tryz.xtOk; exact rfl; exact rfl)
    | refine then_x ?_
    | refine then_r ?_
    | refine blk_n ?_
    | refine blk_eq rfl ?_
    | refine blk_ne rfl ?_
    | refine blk_r ?_
    | refine loop_x ?_
    | refine loop_r ?_
    | refine cut_x ?_
    | refine cut_r ?_
    | refine body_ret rfl rfl ?_
    | refine body_end rfl rfl ?_
    | exact (rfl : AEnd.ret _ = AEnd.ret _)
    | exact ⟨rfl, _, rfl⟩
    | exact ⟨rfl, HFin.refl _⟩
    | (rename BD _ _ => hbd; cases hbd)
    | (rename ¬ _ = _ => hq; exact absurd rfl hq))
  · rename_i hp
    refine ⟨[0], rfl, ⟨⟨by simp only [AObj.ren, AVs.ren, AV.ren]; rfl, ⟨trivial, trivial, trivial, trivial⟩⟩, trivial⟩, ?_, trivial⟩
    have e : c.k = k := by simp at hp; cases k; simp [Cn.k, hp]
    simp [AV.ren, e]
  · rename_i hp
    refine ⟨[0], rfl, ⟨⟨by simp only [AObj.ren, AVs.ren, AV.ren]; rfl, ⟨trivial, trivial, trivial, trivial⟩⟩, trivial⟩, ?_, trivial⟩
    have e : ¬ c.k = k := by rintro rfl; simp [Cn.k] at hp
    simp [AV.ren, e]
end Go.Proofs
