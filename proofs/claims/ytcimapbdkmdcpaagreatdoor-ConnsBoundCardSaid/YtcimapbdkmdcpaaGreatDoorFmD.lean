/- FM, a program logic over the given model with abstract values and an abstract heap: general lemmas. No statement is closed in this text. -/
import Derived.Test.YtcimapbdkmdcpaaGreatDoorFmC
set_option linter.unusedVariables false
set_option linter.unusedSimpArgs false
namespace Go.Fm
open Go

section
variable {P : Program} {Tb : TypeId → Option TInfo} {G : Nat → Nat → Option AV} {μ κ : Nat → Nat} {h : Heap} {w : World} {N : Nat} {fr : Frame} {a : Act}

theorem convA_sound (hT : TbOk P Tb) {s d : TypeId} {si di : TInfo} (hs : Tb s = some si) (hd : Tb d = some di) {x v : AV} (hv : convA si.uk di.uk x = some v) (n : Nat) (hx : x.le n) :
    (convert s d (conc μ κ x)).run P w = .ok (conc μ κ v) w ∧ v.le n := by
  obtain ⟨_, ds, hs⟩ := hT s si hs
  obtain ⟨_, dd, hd⟩ := hT d di hd
  have us := hs.uk
  have ud := hd.uk
  unfold convA at hv
  split at hv
  · rename_i k k' n' e
    simp at hv; subst hv
    simp only [e, ukRel] at ud; subst ud
    refine ⟨?_, trivial⟩
    rw [convert, Sem.run_bind, hs.run_underlying, Result.andThen_ok, Sem.run_bind, hd.run_underlying, Result.andThen_ok]
    simp only [conc]
    cases ds <;> rfl
  · rename_i s' e
    split at hv
    · rename_i e2
      simp at hv; subst hv
      simp only [e, ukRel] at ud; subst ud
      simp only [e2, ukRel] at us; subst us
      refine ⟨?_, trivial⟩
      rw [convert, Sem.run_bind, hs.run_underlying, Result.andThen_ok, Sem.run_bind, hd.run_underlying, Result.andThen_ok]
      rfl
    · simp at hv
  · simp at hv

theorem fieldPlace_run {t : TypeId} {i : TInfo} {ti : TypeInfo} {d : TypeDesc} (ht : TOk P t i ti d) {m : Nat} (hs : i.size = m + 1) (f : Field) (hf : f.type = t) (b off : Nat) :
    (fieldPlace ⟨b, off, none⟩ f).run P w = .ok ⟨b, off + f.offset, none⟩ w := by
  subst hf
  simp [fieldPlace, ht.run_size, hs, Addr.add_lit]

theorem fieldAddr_sound (hT : TbOk P Tb) {t : TypeId} {i fi : TInfo} {fs : List (Nat × TypeId)} {f off : Nat} {ft : TypeId} {m : Nat} (hi : Tb t = some i) (hk : i.uk = .strct fs) (hn : nth fs f = some (off, ft)) (hfi : Tb ft = some fi)
    (hm : fi.size = m + 1) (b o : Nat) : (Instr.fieldAt t (.pointer (some ⟨b, o, none⟩)) f).run P w = .ok (.pointer (some ⟨b, o + off, none⟩)) w := by
  obtain ⟨_, d, ht⟩ := hT t i hi
  obtain ⟨_, d2, hft⟩ := hT ft fi hfi
  have hu := ht.uk
  simp only [hk, ukRel] at hu
  obtain ⟨fl, rfl, hl⟩ := hu
  have hx : ∃ x, fl[f]? = some x ∧ x.offset = off ∧ x.type = ft := by
    rw [nth_eq, ← hl, List.getElem?_map, Option.map_eq_some_iff] at hn
    obtain ⟨x, hx, e⟩ := hn
    simp at e
    exact ⟨x, by simpa using hx, e.1, e.2⟩
  obtain ⟨x, hx, rfl, rfl⟩ := hx
  simp only [Instr.fieldAt, Sem.run_bind, ht.run_underlying, Result.andThen_ok, hx, Instr.sureAddr, Sem.run_pure, fieldPlace_run hft hm x rfl]

theorem field_sound (hT : TbOk P Tb) {t : TypeId} {i fi : TInfo} {fs : List (Nat × TypeId)} {f off : Nat} {ft : TypeId} (hi : Tb t = some i) (hk : i.uk = .strct fs) (hn : nth fs f = some (off, ft)) (hfi : Tb ft = some fi)
    {cs : List AV} {v : AV} (hv : loadAV fi cs off = some v) (n : Nat) (hl : AVs.le n cs) : (Instr.field t (.agg (concs μ κ cs).toArray) f).run P w = .ok (conc μ κ v) w ∧ v.le n := by
  obtain ⟨_, d, ht⟩ := hT t i hi
  obtain ⟨_, d2, hft⟩ := hT ft fi hfi
  have hu := ht.uk
  simp only [hk, ukRel] at hu
  obtain ⟨fl, rfl, hfl⟩ := hu
  have hx : ∃ x, fl[f]? = some x ∧ x.offset = off ∧ x.type = ft := by
    rw [nth_eq, ← hfl, List.getElem?_map, Option.map_eq_some_iff] at hn
    obtain ⟨x, hx, e⟩ := hn
    simp at e
    exact ⟨x, by simpa using hx, e.1, e.2⟩
  obtain ⟨x, hx, rfl, rfl⟩ := hx
  have := part_sound (P := P) (w := w) (μ := μ) (κ := κ) hft hv n hl
  exact ⟨by simp only [Instr.field, Sem.run_bind, ht.run_underlying, Result.andThen_ok, hx, asAgg, Sem.run_pure, this.1], this.2⟩

theorem ev_map (hf : FRel N μ κ fr h.length a) {x : Operand} {v : AV} (hv : ev fr x = some v) : a.eval x = conc μ κ v ∧ v.le h.length := ev_sound hf hv

theorem pureOp_sound (hT : TbOk P Tb) (hh : HRel P G μ κ h w) (hf : FRel N μ κ fr h.length a) {o : Oper} {op : Op} (ho : o.op = op) {v : AV} (hv : pureOp Tb G fr h op = some v) :
    (execOp a.eval o).run P w = .ok (.value (conc μ κ v)) w ∧ v.le h.length := by
  unfold pureOp at hv
  split at hv
  · have := ev_sound hf hv; exact ⟨by simp [execOp, ho, this.1], this.2⟩
  · have := ev_sound hf hv; exact ⟨by simp [execOp, ho, this.1], this.2⟩
  · -- pick
    rename_i c x y
    split at hv
    · rename_i t hc
      have hc := (ev_sound hf hc).1
      split at hv
      · have := ev_sound hf hv; exact ⟨by simp [execOp, ho, this.1, hc, conc, asBool], this.2⟩
      · have := ev_sound hf hv; exact ⟨by simp [execOp, ho, this.1, hc, conc, asBool], this.2⟩
    · simp at hv
  · -- load
    rename_i t p
    split at hv
    · rename_i pv i hp hi
      obtain ⟨ti, d, ht⟩ := hT t i hi
      split at hv
      · rename_i g off
        have e := (ev_sound hf hp).1
        have := run_loadG (μ := μ) (κ := κ) ht (hh.glob g) hv h.length
        exact ⟨by simp only [execOp, ho, e, conc, Instr.loadAt, Instr.sureAddr, Sem.run_bind, Sem.run_pure, Result.andThen_ok, this.1], this.2⟩
      · split at hv
        · rename_i cs off hc
          obtain ⟨b, e1, e2, e3⟩ := cellsAt_sound hh hc
          have e := (ev_sound hf hp).1
          have := run_loadAV ht (off := off) e2 hv _ e3
          exact ⟨by simp only [execOp, ho, e, e1, Instr.loadAt, Instr.sureAddr, Sem.run_bind, Sem.run_pure, Result.andThen_ok, this.1], this.2⟩
        · simp at hv
    · simp at hv
  · -- nilCheck
    rename_i x
    split at hv <;> simp at hv <;> subst hv
    all_goals
      rename_i hx
      have := ev_sound hf hx
      exact ⟨by simp [execOp, ho, this.1, conc], this.2⟩
  · -- binOp
    split at hv
    · rename_i op t x y _ _ _ va vb ha hb
      have ea := (ev_sound hf ha).1
      have eb := (ev_sound hf hb).1
      have := run_binA (w := w) (μ := μ) (κ := κ) hT (ox := x) (oy := y) hv h.length
      refine ⟨?_, this.2⟩
      have h1 := this.1
      simp only [execOp, ho, ea, eb, Sem.run_bind] at h1 ⊢
      rw [h1]; rfl
    · simp at hv
  · -- unOp
    split at hv <;> simp at hv <;> subst hv
    all_goals
      rename_i hx
      have := (ev_sound hf hx).1
      exact ⟨by simp [execOp, ho, this, conc, Op.unary, Op.intArith, Op.intBits, bits2], trivial⟩
  · -- convert
    split at hv
    · rename_i si di x hs hd hx
      have := ev_sound hf hx
      have r := convA_sound (P := P) (w := w) (μ := μ) (κ := κ) hT hs hd hv _ this.2
      exact ⟨by simp only [execOp, ho, this.1, Sem.run_bind, r.1]; rfl, r.2⟩
    · simp at hv
  · -- makeInterface
    split at hv
    · rename_i i x hi hx
      obtain ⟨ti, d, ht⟩ := hT _ i hi
      have hu := ht.uk
      have := ev_sound hf hx
      split at hv
      · simp at hv
      · simp at hv
      · rename_i n1 n2
        simp at hv; subst hv
        refine ⟨?_, this.2⟩
        simp only [execOp, ho, this.1, Instr.makeInterface, Sem.run_bind, ht.run_underlying, Result.andThen_ok]
        cases d with
        | interface m => cases hk : i.uk <;> simp_all [ukRel]
        | _ => rfl
    · simp at hv
  · -- makeFunc
    split at hv
    · rename_i f as bs ha hb
      simp at hv; subst hv
      have p := evs_sound hf ha
      have q := evs_sound hf hb
      refine ⟨?_, p.2, q.2⟩
      simp only [execOp, ho, Instr.makeFunc, Sem.run_bind, Sem.run_pure, Result.andThen_ok, conc]
      congr 4
      · apply Array.ext'; simp [p.1]
      · apply Array.ext'; simp [q.1]
    · simp at hv
  · -- fieldAddr
    split at hv
    · rename_i i x hi hx
      have := ev_sound hf hx
      split at hv
      · rename_i fs hk
        split at hv
        · rename_i off ft hn
          split at hv
          · rename_i fi hfi
            split at hv
            · simp at hv
            · rename_i m _ _ hm
              simp at hv; subst hv
              obtain ⟨m, hm'⟩ : ∃ m, fi.size = m + 1 := by
                cases hz : fi.size with
                | zero => simp_all
                | succ m => exact ⟨m, rfl⟩
              exact ⟨by simp only [execOp, ho, this.1, conc, Sem.run_bind, fieldAddr_sound (w := w) hT hi hk hn hfi hm']; rfl, this.2⟩
            · rename_i m _ _ hm
              simp at hv; subst hv
              obtain ⟨m, hm'⟩ : ∃ m, fi.size = m + 1 := by
                cases hz : fi.size with
                | zero => simp_all
                | succ m => exact ⟨m, rfl⟩
              exact ⟨by simp only [execOp, ho, this.1, conc, Sem.run_bind, fieldAddr_sound (w := w) hT hi hk hn hfi hm']; rfl, this.2⟩
            · simp at hv
          · simp at hv
        · simp at hv
      · simp at hv
    · simp at hv
  · -- field
    split at hv
    · rename_i i cs hi hx
      have := ev_sound hf hx
      split at hv
      · rename_i fs hk
        split at hv
        · rename_i off ft hn
          split at hv
          · rename_i fi hfi
            have r := field_sound (w := w) (μ := μ) (κ := κ) hT hi hk hn hfi hv h.length this.2
            exact ⟨by simp only [execOp, ho, this.1, conc, Sem.run_bind, r.1]; rfl, r.2⟩
          · simp at hv
        · simp at hv
      · simp at hv
    · simp at hv
  · -- extract
    split at hv
    · rename_i vs hx
      have := ev_sound hf hx
      rw [nth_eq] at hv
      refine ⟨by simp [execOp, ho, this.1, conc, Instr.extract, concs_get, hv], ?_⟩
      have hl : AVs.le h.length vs := this.2
      rw [AVs.le_iff] at hl
      exact hl v (List.mem_of_getElem? hv)
    · simp at hv
  · -- len
    rename_i args ts
    obtain ⟨args⟩ := args
    obtain ⟨ts⟩ := ts
    split at hv
    · rename_i x t e1 e2
      simp at e1 e2; subst e1 e2
      split at hv
      · rename_i i y hi hx
        obtain ⟨ti, d, ht⟩ := hT _ i hi
        have hu := ht.uk
        have ex := (ev_sound hf hx).1
        have key : ∀ r, (Builtin.len_ #[t] o.type #[conc μ κ y]).run P w = .ok r w → (execOp a.eval o).run P w = .ok (.value r) w := by
          intro r hr
          simp [execOp, ho, resolve, invoke, builtin, ex, hr]
        have key2 : ∀ f : TypeDesc → Sem Value, (underlying t >>= f).run P w = (f d).run P w := by
          intro f; rw [Sem.run_bind, ht.run_underlying]; rfl
        split at hv <;> (try (simp at hv; done)) <;> (rename_i hk; simp at hv; subst hv; refine ⟨key _ ?_, trivial⟩; simp only [hk, ukRel] at hu; subst hu) <;> (show (underlying t >>= _).run P w = _) <;> rw [key2]
        · simp [conc, goInt, ByteArray.size]
        · rename_i cap; cases cap <;> rfl
        · rfl
        · rfl
        · rfl
      · simp at hv
    · simp at hv
  · -- cap
    rename_i args ts
    obtain ⟨args⟩ := args
    obtain ⟨ts⟩ := ts
    split at hv
    · rename_i x t e1 e2
      simp at e1 e2; subst e1 e2
      split at hv
      · rename_i i y hi hx
        obtain ⟨ti, d, ht⟩ := hT _ i hi
        have hu := ht.uk
        have ex := (ev_sound hf hx).1
        have key : ∀ r, (Builtin.cap_ #[t] o.type #[conc μ κ y]).run P w = .ok r w → (execOp a.eval o).run P w = .ok (.value r) w := by
          intro r hr
          simp [execOp, ho, resolve, invoke, builtin, ex, hr]
        have key2 : ∀ f : TypeDesc → Sem Value, (underlying t >>= f).run P w = (f d).run P w := by
          intro f; rw [Sem.run_bind, ht.run_underlying]; rfl
        split at hv <;> (try (simp at hv; done)) <;> (rename_i hk; simp at hv; subst hv; refine ⟨key _ ?_, trivial⟩; simp only [hk, ukRel] at hu; subst hu) <;> (show (underlying t >>= _).run P w = _) <;> rw [key2] <;> rfl
      · simp at hv
    · simp at hv
  · simp at hv
end
end Go.Fm
