/- FM, a program logic over the given model with abstract values and an abstract heap: general lemmas. No statement is closed in this text. -/
import Derived.Test.YtcimapbdkmdcpaaGreatDoorFmT
import Derived.Lib.Bytealg
set_option linter.unusedVariables false
set_option linter.unusedSimpArgs false
namespace Go.Fm
open Go

/-! Operations that read no memory, computed. -/
def inB (m : Int) (n : Nat) : Bool := match m with
  | .ofNat k => Nat.blt k n
  | .negSucc _ => false
theorem inB_ok {m : Int} {n : Nat} (h : inB m n = true) : 0 ≤ m ∧ m < n := by
  cases m with
  | ofNat k => simp [inB, Nat.blt_eq] at h; exact ⟨Int.natCast_nonneg k, by simpa using h⟩
  | negSucc k => simp [inB] at h
def leI (a b : Int) : Bool := match b - a with
  | .ofNat _ => true
  | .negSucc _ => false
theorem leI_ok {a b : Int} (h : leI a b = true) : a ≤ b := by
  unfold leI at h
  split at h
  · rename_i n he
    have : (0 : Int) ≤ b - a := by rw [he]; exact Int.natCast_nonneg n
    omega
  · simp at h

def idxA (Tb : TypeId → Option TInfo) (fr : Frame) (t : TypeId) (x y : Operand) : Option AV :=
  match Tb t, ev fr x, ev fr y with
  | some i, some vx, some (.int _ m) => match i.uk, vx with
    | .str, .str s => bif inB m s.length then some (.int .u8 ((s.getD m.toNat 0).toNat : Int)) else none
    | .arr n e, .agg cs => match Tb e with
      | some ei => bif inB m n then loadAV ei cs (m.toNat * ei.size) else none
      | none => none
    | _, _ => none
  | _, _, _ => none

def ixaA (Tb : TypeId → Option TInfo) (fr : Frame) (t : TypeId) (x y : Operand) : Option AV :=
  match Tb t, ev fr x, ev fr y with
  | some i, some vx, some (.int _ m) => match i.uk, vx with
    | .slc e, .slc id off len cap => match Tb e with
      | some ei => bif okc cap off then (bif inB m len then some (.ptr id (off + m.toNat * ei.size)) else none) else none
      | none => none
    | .arr n e, .ptr id off => match Tb e with
      | some ei => bif Nat.ble 2 n then (bif inB m n then some (.ptr id (off + m.toNat * ei.size)) else none) else none
      | none => none
    | .arr n e, .gptr g off => match Tb e with
      | some ei => bif Nat.ble 2 n then (bif inB m n then some (.gptr g (off + m.toNat * ei.size)) else none) else none
      | none => none
    | _, _ => none
  | _, _, _ => none

def offA (l m : Int) (off es : Nat) : Nat := bif leI m l then off else off + l.toNat * es

def sliA (Tb : TypeId → Option TInfo) (fr : Frame) (t : TypeId) (x : Operand) (lo hi mx : Option Operand) : Option AV :=
  match Tb t, ev fr x, boundOf fr lo 0, hmOk hi mx with
  | some i, some vx, some l, true => match i.uk, vx with
    | .str, .str s => match mx, boundOf fr hi s.length with
      | none, some u => bif leI 0 l then (bif leI l u then (bif leI u s.length then some (.str ((s.take u.toNat).drop l.toNat)) else none) else none) else none
      | _, _ => none
    | .slc e, .slc id off len (.exact c) => match Tb e, boundOf fr hi len, boundOf fr mx c with
      | some ei, some u, some m => bif leI 0 l then (bif leI l u then (bif leI u m then (bif leI m c then some (.slc id (offA l m off ei.size) (u.toNat - l.toNat) (.exact (m.toNat - l.toNat))) else none) else none) else none) else none
      | _, _, _ => none
    | .slc e, .nils => match Tb e, boundOf fr hi 0, boundOf fr mx 0 with
      | some ei, some u, some m => bif leI 0 l then (bif leI l u then (bif leI u m then (bif leI m 0 then some .nils else none) else none) else none) else none
      | _, _, _ => none
    | .arr c e, .ptr id off => match Tb e, boundOf fr hi c, boundOf fr mx c with
      | some ei, some u, some m => bif leI 0 l then (bif leI l u then (bif leI u m then (bif leI m c then some (.slc id (offA l m off ei.size) (u.toNat - l.toNat) (.exact (m.toNat - l.toNat))) else none) else none) else none) else none
      | _, _, _ => none
    | .slc e, .slc id 0 len (.opn 0 0) => match Tb e, mx, boundOf fr hi len with
      | some ei, none, some u => bif leI 0 l then (bif leI l 0 then (bif leI 0 u then (bif leI u 0 then some (.slc id 0 0 (.opn 0 0)) else none) else none) else none) else none
      | _, _, _ => none
    | _, _ => none
  | _, _, _, _ => none

def catA (fr : Frame) (x y : Operand) : Option AV :=
  match ev fr x, ev fr y with
  | some (.str s), some (.str r) => bif Nat.ble (s.length + r.length) 9223372036854775807 then some (.str (s ++ r)) else none
  | _, _ => none

def cmpA (Tb : TypeId → Option TInfo) (E : TypeId → Bool) (fr : Frame) (op : BinOp) (t : TypeId) (x y : Operand) : Option AV :=
  match ev fr x, ev fr y with
  | some (.agg xs), some (.agg ys) => match E t with
    | true => match eqV Tb E 64 t (.agg xs) (.agg ys) with
      | some r => match negB op r with
        | some c => some (.bool c)
        | none => none
      | none => none
    | false => none
  | some (.ptr id off), some (.ptr id' off') => bif Nat.beq id id' then (bif Nat.beq off off' then (match Tb t with
    | some i => match i.uk with
      | .ptr e => match Tb e with
        | some ei => bif Nat.blt 0 ei.size then (match negB op true with
          | some c => some (.bool c)
          | none => none) else none
        | none => none
      | _ => none
    | none => none) else none) else none
  | _, _ => none

/-- Functions that the model answers. -/
inductive XK where
  | count
  | byte
  | same
  | noZero (t : TypeId)
def XK.entry : XK → Array Value → Sem Value
  | .count => Extern.BytealgCount.count
  | .byte => Extern.BytealgIndexByte.indexByte
  | .same => Extern.AbiNoEscape.same
  | .noZero t => Extern.BytealgMakeNoZero.makeNoZero #[3] #[t]
def XK.run : XK → List AV → Option AV
  | .count, [.str s, .int .u8 c] => some (.int .i64 (Go.Lib.countByte s c.toNat.toUInt8 : Int))
  | .byte, [.str s, .int .u8 c] => some (.int .i64 (Go.Lib.indexByte s c.toNat.toUInt8))
  | _, _ => none
def XOk (P : Program) (X : FuncId → Option XK) : Prop := ∀ f k, X f = some k → ExtOk P f k.entry

def extA (X : FuncId → Option XK) (fr : Frame) (c : Call) : Option AV :=
  match calleeOf fr c with
  | some (f, as) => match X f with
    | some k => match k, as with
      | .same, [v] => some v
      | k, as => k.run as
    | none => none
  | none => none

def ixA (Tb : TypeId → Option TInfo) (E : TypeId → Bool) (X : FuncId → Option XK) (fr : Frame) : Op → Option AV
  | .index t x y => idxA Tb fr t x y
  | .indexAddr t x y => ixaA Tb fr t x y
  | .slice t x lo hi mx => sliA Tb fr t x lo hi mx
  | .binOp .add _ x y _ => catA fr x y
  | .binOp op t x y _ => cmpA Tb E fr op t x y
  | .build t ps => match evParts fr ps.toList with
    | some vs => buildA Tb t vs
    | none => none
  | .call { callee := .builtin .max, args := args, argTypes := _ } => match evs fr args.toList with
    | some vs => mmA true vs
    | none => none
  | .call { callee := .builtin .min, args := args, argTypes := _ } => match evs fr args.toList with
    | some vs => mmA false vs
    | none => none
  | .call { callee := .builtin .unsafeSliceData, args := args, argTypes := _ } => match args.toList with
    | [x] => match ev fr x with
      | some (.slc id off _ (.exact c)) => bif Nat.blt 0 c then some (.ptr id off) else none
      | some .nils => some .nilp
      | _ => none
    | _ => none
  | .call { callee := .builtin .unsafeString, args := args, argTypes := ts } => match args.toList, ts.toList with
    | [x, y], [_, _] => match ev fr x, ev fr y with
      | some v, some (.int .i64 0) => bif isP v then some (.str []) else none
      | _, _ => none
    | _, _ => none
  | .call c => extA X fr c
  | _ => none

section
variable {P : Program} {Tb : TypeId → Option TInfo} {G : Nat → Nat → Option AV} {μ κ : Nat → Nat} {h : Heap} {N : Nat} {fr : Frame} {a : Act} {w : World} {E : TypeId → Bool} {X : FuncId → Option XK} {o : Oper} {v : AV}

theorem idxA_ok (hT : TbOk P Tb) {t : TypeId} {x y : Operand} (ho : o.op = .index t x y) (hv : idxA Tb fr t x y = some v) : StepTo P G o fr h v h := by
  unfold idxA at hv
  split at hv
  · rename_i i vx k m hi hx hy
    split at hv
    · rename_i s hk
      cases hb : inB m s.length with
      | false => simp [hb] at hv
      | true => simp [hb] at hv; subst hv; exact st_index_str hT ho hi hk hx hy (inB_ok hb)
    · rename_i n e cs hk
      split at hv
      · rename_i ei hei
        cases hb : inB m n with
        | false => simp [hb] at hv
        | true => simp only [hb, cond_true] at hv; exact st_index_arr hT ho hi hk hei hx hy (inB_ok hb) hv
      · simp at hv
    · simp at hv
  · simp at hv

theorem ixaA_ok (hT : TbOk P Tb) {t : TypeId} {x y : Operand} (ho : o.op = .indexAddr t x y) (hv : ixaA Tb fr t x y = some v) : StepTo P G o fr h v h := by
  unfold ixaA at hv
  split at hv
  · rename_i i vx k m hi hx hy
    split at hv
    · rename_i e id off len cap hk
      split at hv
      · rename_i ei hei
        cases hc : okc cap off with
        | false => simp [hc] at hv
        | true =>
          cases hb : inB m len with
          | false => simp [hc, hb] at hv
          | true => simp [hc, hb] at hv; subst hv; exact st_ixa_slc hT ho hi hk hei hx hy hc (inB_ok hb)
      · simp at hv
    · rename_i n e id off hk
      split at hv
      · rename_i ei hei
        cases hc : Nat.ble 2 n with
        | false => simp [hc] at hv
        | true =>
          cases hb : inB m n with
          | false => simp [hc, hb] at hv
          | true => simp [hc, hb] at hv; subst hv; exact st_ixa_arr hT ho hi hk hei hx hy (inB_ok hb) (Nat.le_of_ble_eq_true hc)
      · simp at hv
    · rename_i n e id off hk
      split at hv
      · rename_i ei hei
        cases hc : Nat.ble 2 n with
        | false => simp [hc] at hv
        | true =>
          cases hb : inB m n with
          | false => simp [hc, hb] at hv
          | true => simp [hc, hb] at hv; subst hv; exact st_ixa_glob hT ho hi hk hei hx hy (inB_ok hb) (Nat.le_of_ble_eq_true hc)
      · simp at hv
    · simp at hv
  · simp at hv

theorem offA_ok {l m : Int} {off es : Nat} (h : l ≤ m) : (l = m ∧ offA l m off es = off) ∨ (l < m ∧ offA l m off es = off + l.toNat * es) := by
  unfold offA
  cases hb : leI m l with
  | true => have := leI_ok hb; exact .inl ⟨by omega, rfl⟩
  | false =>
    refine .inr ⟨?_, rfl⟩
    unfold leI at hb
    split at hb
    · simp at hb
    · rename_i n he
      have : l - m < 0 := by rw [he]; exact Int.negSucc_lt_zero n
      omega

theorem sliA_ok (hT : TbOk P Tb) {t : TypeId} {x : Operand} {lo hi mx : Option Operand} (ho : o.op = .slice t x lo hi mx) (hv : sliA Tb fr t x lo hi mx = some v) : StepTo P G o fr h v h := by
  unfold sliA at hv
  split at hv
  · rename_i i vx l hi' hx hl hxx
    split at hv
    · rename_i s hk
      split at hv
      · rename_i u hu
        cases b1 : leI 0 l <;> cases b2 : leI l u <;> cases b3 : leI u s.length <;> simp [b1, b2, b3] at hv
        subst hv
        exact st_slice_str hT ho hi' hk hx hl hu ⟨leI_ok b1, leI_ok b2, leI_ok b3⟩
      · simp at hv
    · rename_i e id off len c hk
      split at hv
      · rename_i ei u m hei hu hm
        cases b1 : leI 0 l <;> cases b2 : leI l u <;> cases b3 : leI u m <;> cases b4 : leI m c <;> simp [b1, b2, b3, b4] at hv
        subst hv
        exact st_slice_slc hT ho hi' hk hei hx hl hu hm hxx ⟨leI_ok b1, leI_ok b2, leI_ok b3, leI_ok b4⟩ (offA_ok (Int.le_trans (leI_ok b2) (leI_ok b3)))
      · simp at hv
    · rename_i e hk
      split at hv
      · rename_i ei u m hei hu hm
        cases b1 : leI 0 l <;> cases b2 : leI l u <;> cases b3 : leI u m <;> cases b4 : leI m 0 <;> simp [b1, b2, b3, b4] at hv
        subst hv
        exact st_slice_nil hT ho hi' hk hei hx hl hu hm hxx ⟨leI_ok b1, leI_ok b2, leI_ok b3, leI_ok b4⟩
      · simp at hv
    · rename_i c e id off hk
      split at hv
      · rename_i ei u m hei hu hm
        cases b1 : leI 0 l <;> cases b2 : leI l u <;> cases b3 : leI u m <;> cases b4 : leI m c <;> simp [b1, b2, b3, b4] at hv
        subst hv
        exact st_slice_arr hT ho hi' hk hei hx hl hu hm hxx ⟨leI_ok b1, leI_ok b2, leI_ok b3, leI_ok b4⟩ (offA_ok (Int.le_trans (leI_ok b2) (leI_ok b3)))
      · simp at hv
    · rename_i e id len hk
      split at hv
      · rename_i ei u hei hu
        cases b1 : leI 0 l <;> cases b2 : leI l 0 <;> cases b3 : leI 0 u <;> cases b4 : leI u 0 <;> simp [b1, b2, b3, b4] at hv
        subst hv
        have h1 : l = 0 := Int.le_antisymm (leI_ok b2) (leI_ok b1)
        have h2 : u = 0 := Int.le_antisymm (leI_ok b4) (leI_ok b3)
        subst h1 h2
        exact st_slice_opn0 hT ho hi' hk hei hx hl hu
      · simp at hv
    · simp at hv
  · simp at hv

theorem catA_ok {t u : TypeId} {x y : Operand} (ho : o.op = .binOp .add t x y u) (hv : catA fr x y = some v) : StepTo P G o fr h v h := by
  unfold catA at hv
  split at hv
  · rename_i s r hx hy
    cases hb : Nat.ble (s.length + r.length) 9223372036854775807 with
    | false => simp [hb] at hv
    | true => simp [hb] at hv; subst hv; exact st_concat ho hx hy (Nat.le_of_ble_eq_true hb)
  · simp at hv

theorem cmpA_ok (hT : TbOk P Tb) (hE : EqOk P E) {op : BinOp} {t u : TypeId} {x y : Operand} (ho : o.op = .binOp op t x y u) (hv : cmpA Tb E fr op t x y = some v) : StepTo P G o fr h v h := by
  unfold cmpA at hv
  split at hv
  · rename_i xs ys hx hy
    split at hv
    · rename_i hEt
      split at hv
      · rename_i r hr
        split at hv
        · rename_i c hc
          simp at hv; subst hv
          exact st_eqS hT hE 64 rfl ho hx hy hEt hr hc
        · simp at hv
      · simp at hv
    · simp at hv
  · rename_i id off id' off' hx hy
    cases b1 : Nat.beq id id' with
    | false => simp [b1] at hv
    | true =>
      cases b2 : Nat.beq off off' with
      | false => simp [b1, b2] at hv
      | true =>
        have q1 := Nat.eq_of_beq_eq_true b1
        have q2 := Nat.eq_of_beq_eq_true b2
        subst q1 q2
        simp only [b1, b2, cond_true] at hv
        split at hv
        · rename_i i hi
          split at hv
          · rename_i e hk
            split at hv
            · rename_i ei hei
              cases b3 : Nat.blt 0 ei.size with
              | false => simp [b3] at hv
              | true =>
                simp only [b3, cond_true] at hv
                split at hv
                · rename_i c hc
                  simp at hv; subst hv
                  exact st_eqPtr hT ho hi hk hei b3 hx hy hc
                · simp at hv
            · simp at hv
          · simp at hv
        · simp at hv
  · simp at hv

theorem XK.run_ok {k : XK} {as : List AV} (hv : k.run as = some v) : v.le 0 ∧ ∀ (μ κ : Nat → Nat) (w : World), (k.entry (concs μ κ as).toArray).run P w = .ok (conc μ κ v) w := by
  unfold XK.run at hv
  split at hv
  · rename_i s c
    simp at hv; subst hv
    refine ⟨trivial, fun μ κ w => ?_⟩
    exact Go.Lib.run_countString (P := P) ⟨s.toArray⟩ c w
  · rename_i s c
    simp at hv; subst hv
    refine ⟨trivial, fun μ κ w => ?_⟩
    exact Go.Lib.run_indexByteString (P := P) ⟨s.toArray⟩ c w
  · simp at hv

theorem extA_ok (hX : XOk P X) {c : Call} (ho : o.op = .call c) (hv : extA X fr c = some v) : StepTo P G o fr h v h := by
  unfold extA at hv
  split at hv
  · rename_i f as hc
    split at hv
    · rename_i k hk
      split at hv
      · rename_i v'
        simp at hv; subst hv
        -- the pointer as it is
        intro N μ κ a w hh hf
        unfold calleeOf at hc
        split at hc
        · rename_i g hg
          split at hc
          · rename_i fid first captured as' hgv hasv
            simp at hc; obtain ⟨rfl, has⟩ := hc
            have e1 := ev_sound hf hgv
            have e2 := evs_sound hf hasv
            obtain ⟨fn, q1, q2, q3, q4, q5⟩ := hX _ _ hk
            have e3 : c.args.map a.eval = (concs μ κ as').toArray := by apply Array.ext'; simp [e2.1]
            have R2 := run_callFunc_extern (P := P) q1 q2 q3 q4 q5 (concs μ κ (first ++ (as' ++ captured))).toArray w
            rw [has] at R2
            have hone : (concs μ κ [v']).toArray = #[conc μ κ v'] := rfl
            rw [hone] at R2
            have hsame : (XK.same.entry #[conc μ κ v']).run P w = .ok (conc μ κ v') w := rfl
            rw [hsame] at R2
            simp only [Result.andThen_ok] at R2
            have l1 : AVs.le h.length first ∧ AVs.le h.length captured := e1.2
            have l2 := e2.2
            have hvl : v'.le h.length := by
              have : v' ∈ first ++ (as' ++ captured) := by rw [has]; simp
              rw [AVs.le_iff] at l1 l2
              rw [AVs.le_iff] at l1
              simp only [List.mem_append] at this
              rcases this with q | q | q
              · exact l1.1 v' q
              · exact l2 v' q
              · exact l1.2 v' q
            refine ⟨μ, κ, w, ?_, hh, hvl, Ext.refl _ _ _ _⟩
            simp only [execOp, ho, resolve, hg, e1.1, e3, conc, Deferred.ofValue, invoke, Sem.run_bind, Sem.run_pure, Result.andThen_ok]
            have hcc : (concs μ κ first).toArray ++ (concs μ κ as').toArray ++ (concs μ κ captured).toArray = #[conc μ κ v'] := by
              rw [← hone, ← has]; simp [concs_append]
            rw [hcc, R2]
          · simp at hc
        · simp at hc
      · have r := XK.run_ok (P := P) hv
        exact st_ext ho hc (hX _ _ hk) r.1 r.2
    · simp at hv
  · simp at hv

theorem ixA_ok (hT : TbOk P Tb) (hE : EqOk P E) (hX : XOk P X) {op : Op} (ho : o.op = op) (hv : ixA Tb E X fr op = some v) : StepTo P G o fr h v h := by
  unfold ixA at hv
  split at hv
  · exact idxA_ok hT ho hv
  · exact ixaA_ok hT ho hv
  · exact sliA_ok hT ho hv
  · exact catA_ok ho hv
  · exact cmpA_ok hT hE ho hv
  · split at hv
    · rename_i vs hp
      exact st_build hT ho hp hv
    · simp at hv
  · split at hv
    · rename_i vs hp
      exact st_max ho hp hv
    · simp at hv
  · split at hv
    · rename_i vs hp
      exact st_min ho hp hv
    · simp at hv
  · rename_i args ts
    split at hv
    · rename_i x hx
      have : args = #[x] := by apply Array.ext'; exact hx
      subst this
      split at hv
      · rename_i id off len c hx
        cases hb : Nat.blt 0 c with
        | false => simp [hb] at hv
        | true => simp [hb] at hv; subst hv; exact st_sliceData ho hx hb
      · rename_i hx
        simp at hv; subst hv; exact st_sliceDataN ho hx
      · simp at hv
    · simp at hv
  · rename_i args ts
    split at hv
    · rename_i x y t u hx ht
      have : args = #[x, y] := by apply Array.ext'; exact hx
      subst this
      have : ts = #[t, u] := by apply Array.ext'; exact ht
      subst this
      split at hv
      · rename_i v' hx hy
        generalize hb : isP v' = b at hv
        cases b with
        | false => simp at hv
        | true => simp at hv; subst hv; exact st_unsafeStr0 ho hx hb hy
      · simp at hv
    · simp at hv
  · exact extA_ok hX ho hv
  · simp at hv
end
end Go.Fm
