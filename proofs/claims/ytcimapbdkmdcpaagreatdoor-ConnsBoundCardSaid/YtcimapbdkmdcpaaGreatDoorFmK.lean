/- FM, a program logic over the given model with abstract values and an abstract heap: general lemmas. No statement is closed in this text. -/
import Derived.Test.YtcimapbdkmdcpaaGreatDoorFmJ
set_option linter.unusedVariables false
set_option linter.unusedSimpArgs false
namespace Go.Fm
open Go

section
variable {P : Program} {Tb : TypeId → Option TInfo} {G : Nat → Nat → Option AV} {μ κ : Nat → Nat} {h : Heap} {N : Nat} {fr : Frame} {a : Act} {w w' : World}

theorem set_get {i j : Nat} {o q : AObj} (hq : (h.set i o)[j]? = some q) : (j = i ∧ q = o) ∨ (j ≠ i ∧ h[j]? = some q) := by
  by_cases e : j = i
  · subst e
    have := lt_of_get hq
    simp at this
    rw [List.getElem?_set_self this] at hq
    simp at hq
    exact .inl ⟨rfl, hq.symm⟩
  · rw [List.getElem?_set_ne (Ne.symm e)] at hq
    exact .inr ⟨e, hq⟩

theorem HRel.kill (r : HRel P G μ κ h w) (id : Nat) : HRel P G μ κ (h.set id .dead) w where
  obj i q hq hl := by
    rcases set_get hq with ⟨_, rfl⟩ | ⟨_, x⟩
    · simp [AObj.live] at hl
    · exact r.obj i q x hl
  sep i j oi oj hi hj hne ho hl := by
    rcases set_get hi with ⟨_, rfl⟩ | ⟨_, x⟩
    · simp [AObj.own] at ho
    · rcases set_get hj with ⟨_, rfl⟩ | ⟨_, y⟩
      · simp [AObj.live] at hl
      · exact r.sep i j oi oj x y hne ho hl
  le i q hq := by
    rw [List.length_set]
    rcases set_get hq with ⟨_, rfl⟩ | ⟨_, x⟩
    · trivial
    · exact r.le i q x
  glob := r.glob
  apart i q g gj gv hi ho hg := by
    rcases set_get hi with ⟨_, rfl⟩ | ⟨_, x⟩
    · simp [AObj.own] at ho
    · exact r.apart i q g gj gv x ho hg

theorem Ext.kill (id : Nat) : Ext μ κ μ κ h (h.set id .dead) w w where
  os := rfl
  tape := rfl
  output := rfl
  size := Nat.le_refl _
  len := by simp
  agree _ _ := ⟨rfl, rfl⟩
  keep _ _ _ := rfl
  fresh i q hq ho := by
    rcases set_get hq with ⟨_, rfl⟩ | ⟨_, x⟩
    · simp [AObj.live] at ho
    · exact .inl ⟨lt_of_get x, q, x, fun y => y, ho⟩

/-- An object goes on under a new number. -/
theorem HRel.rename (r : HRel P G μ κ h w) {id : Nat} {cs : List AV} {ty : TypeId} {opn : Bool} (hid : h[id]? = some (.cells cs ty opn true)) :
    HRel P G (upd μ h.length (μ id)) (upd κ h.length (κ id)) (h.set id .dead ++ [.cells cs ty opn true]) w ∧
    Ext μ κ (upd μ h.length (μ id)) (upd κ h.length (κ id)) h (h.set id .dead ++ [.cells cs ty opn true]) w w := by
  have hlen : (h.set id AObj.dead).length = h.length := by simp
  have hag : ∀ i, i < h.length → upd μ h.length (μ id) i = μ i ∧ upd κ h.length (κ id) i = κ i := fun i hi => ⟨upd_lt _ hi, upd_lt _ hi⟩
  have split : ∀ {i : Nat} {q : AObj}, (h.set id .dead ++ [.cells cs ty opn true])[i]? = some q → (i < h.length ∧ (h.set id .dead)[i]? = some q) ∨ (i = h.length ∧ q = .cells cs ty opn true) := by
    intro i q hq
    have hl := lt_of_get hq
    simp at hl
    rcases Nat.lt_or_ge i h.length with x | x
    · rw [List.getElem?_append_left (by simpa using x)] at hq
      exact .inl ⟨x, hq⟩
    · have : i = h.length := by omega
      subst this
      rw [List.getElem?_append_right (by simp)] at hq
      simp at hq
      exact .inr ⟨rfl, hq.symm⟩
  have hidl := lt_of_get hid
  refine ⟨⟨?_, ?_, ?_, ?_, ?_⟩, ⟨rfl, rfl, rfl, Nat.le_refl _, by simp, hag, fun _ _ _ => rfl, ?_⟩⟩
  · intro i q hq hl
    rcases split hq with ⟨hi, x⟩ | ⟨rfl, rfl⟩
    · rcases set_get x with ⟨_, rfl⟩ | ⟨_, y⟩
      · simp [AObj.live] at hl
      · obtain ⟨b, hb, ho⟩ := r.obj i q y hl
        rw [(hag i hi).1]
        exact ⟨b, hb, objRel_congr hag hi (r.le i q y) ho⟩
    · obtain ⟨b, hb, ho⟩ := r.obj id _ hid rfl
      rw [upd_same]
      refine ⟨b, hb, ?_⟩
      obtain ⟨c, fz, extra, e1, e2, e3, e4, e5⟩ := ho
      exact ⟨c, fz, extra, e1, by rw [e2, concs_congr hag cs (r.le id _ hid)], e3, fun q => by rw [upd_same]; exact e4 q, e5⟩
  · intro i j oi oj hi hj hne ho hl
    rcases split hi with ⟨hi1, x⟩ | ⟨rfl, rfl⟩
    · rcases set_get x with ⟨_, rfl⟩ | ⟨hne1, x1⟩
      · simp [AObj.own] at ho
      · rw [(hag i hi1).1]
        rcases split hj with ⟨hj1, y⟩ | ⟨rfl, rfl⟩
        · rcases set_get y with ⟨_, rfl⟩ | ⟨_, y1⟩
          · simp [AObj.live] at hl
          · rw [(hag j hj1).1]; exact r.sep i j oi oj x1 y1 hne ho hl
        · rw [upd_same]; exact r.sep i id oi _ x1 hid hne1 ho rfl
    · rw [upd_same]
      rcases split hj with ⟨hj1, y⟩ | ⟨rfl, rfl⟩
      · rcases set_get y with ⟨_, rfl⟩ | ⟨hne1, y1⟩
        · simp [AObj.live] at hl
        · rw [(hag j hj1).1]; exact r.sep id j _ oj hid y1 (Ne.symm hne1) rfl hl
      · exact absurd rfl hne
  · intro i q hq
    rw [List.length_append, hlen]
    rcases split hq with ⟨_, x⟩ | ⟨_, rfl⟩
    · rcases set_get x with ⟨_, rfl⟩ | ⟨_, x1⟩
      · trivial
      · exact AObj.le_mono (by omega) (r.le i q x1)
    · exact AObj.le_mono (by omega) (r.le id _ hid)
  · intro g gj gv hg
    obtain ⟨h2, h3⟩ := r.glob g gj gv hg
    exact ⟨by rw [h2]; exact congrArg some (conc_congr (n := 0) (fun i hi => absurd hi (Nat.not_lt_zero _)) gv h3).symm, h3⟩
  · intro i q g gj gv hi ho hg
    rcases split hi with ⟨hi1, x⟩ | ⟨rfl, rfl⟩
    · rcases set_get x with ⟨_, rfl⟩ | ⟨_, x1⟩
      · simp [AObj.own] at ho
      · rw [(hag i hi1).1]; exact r.apart i q g gj gv x1 ho hg
    · rw [upd_same]; exact r.apart id _ g gj gv hid rfl hg
  · intro i q hq ho
    rcases split hq with ⟨hi1, x⟩ | ⟨rfl, rfl⟩
    · rcases set_get x with ⟨_, rfl⟩ | ⟨_, x1⟩
      · simp [AObj.live] at ho
      · exact .inl ⟨hi1, q, x1, fun y => y, ho⟩
    · exact .inr ⟨Nat.le_refl _, .inl ⟨id, _, hid, rfl, upd_same _ _ _⟩⟩

/-- A new block whose end is open. -/
theorem HRel.newOpen (hh : HRel P G μ κ h w) {cs : List AV} (t : TypeId) (hl : AVs.le h.length cs) {c : Array Value} {extra : List Value} (k : Nat) (hw : w'.heap = w.heap.push (.cells c t)) (hc : c.toList = concs μ κ cs ++ extra) (hk : c.size = k * P.cellsOf t)
    (e1 : w'.os = w.os) (e2 : w'.tape = w.tape) (e3 : w'.output = w.output) :
    HRel P G (upd μ h.length w.heap.size) (upd κ h.length k) (h ++ [.cells cs t true true]) w' ∧ Ext μ κ (upd μ h.length w.heap.size) (upd κ h.length k) h (h ++ [.cells cs t true true]) w w' := by
  have hkp : ∀ i, i < w.heap.size → w'.heap[i]? = w.heap[i]? := fun i hi => by rw [hw, Array.getElem?_push, if_neg (by omega)]
  refine ⟨hh.push k (by simp [hw]) hkp (Nat.le_refl _) hl (bo := .cells c t) (by simp [hw]) ⟨c, (0, 0), extra, rfl, ?_, by simp, fun _ => by rw [upd_same]; exact hk, by simp⟩, Ext.push w (by simp [hw]) hkp (Nat.le_refl _) k e1 e2 e3⟩
  rw [hc]; congr 1
  exact (concs_congr (n := h.length) (fun i hi => ⟨upd_lt _ hi, upd_lt _ hi⟩) cs hl).symm

def isSrc : UK → Bool
  | .slc _ => true
  | .str => true
  | _ => false
theorem isSrc_desc {u : UK} {d : TypeDesc} (h : ukRel u d) (hs : isSrc u = true) : (∃ e2, d = .slice e2) ∨ d = .string := by
  cases u <;> simp [isSrc] at hs <;> simp only [ukRel] at h
  · exact .inr h
  · exact .inl ⟨_, h⟩

/-- What an append needs to know of its types. -/
structure AppTy (Tb : TypeId → Option TInfo) (t u e : TypeId) (ei : TInfo) (z : AV) : Prop where
  ht : ∃ i, Tb t = some i ∧ i.uk = .slc e
  hu : ∃ i, Tb u = some i ∧ isSrc i.uk = true
  he : Tb e = some ei
  hz : ei.zero = some z
  zl : Nat.beq z.cells.length ei.size = true

theorem exec_append {o : Oper} {x y : Operand} {t u : TypeId} (ho : o.op = .call { callee := .builtin .append, args := #[x, y], argTypes := #[t, u] }) {vx vy : AV} (hf : FRel N μ κ fr h.length a) (hx : ev fr x = some vx) (hy : ev fr y = some vy) {v : Value}
    (hr : (Builtin.append_ #[t, u] o.type #[conc μ κ vx, conc μ κ vy]).run P w = .ok v w') : (execOp a.eval o).run P w = .ok (.value v) w' := by
  have e1 := (ev_sound hf hx).1
  have e2 := (ev_sound hf hy).1
  simp [execOp, ho, resolve, invoke, builtin, e1, e2, hr]

theorem zeroCells_size (z : Array Value) (n : Nat) : (Builtin.zeroCells z n).size = n * z.size := by simp [Builtin.zeroCells]

theorem grow_size {ti : TypeInfo} {e : TypeId} {z : AV} {es : Nat} (μ κ : Nat → Nat) (hes : P.cellsOf e = es) (hz : z.cells.length = es) {old xs : List AV} {m n cap : Nat} (h1 : old.length = m * es) (h2 : xs.length = n * es) (hc : m + n ≤ cap) :
    ((concs μ κ old).toArray ++ ((concs μ κ xs).toArray ++ Builtin.zeroCells (conc μ κ z).cells (cap - (m + n)))).size = cap * P.cellsOf e := by
  have hzc : (conc μ κ z).cells.size = es := by rw [← Array.length_toList, cells_conc, concs_length, hz]
  simp only [Array.size_append, List.size_toArray, concs_length, zeroCells_size, hzc, h1, h2, hes, ← Nat.add_mul]
  congr 1
  omega

/-- An append to no slice at all, or beyond a known capacity: a new array. -/
theorem st_append_grow (hT : TbOk P Tb) {o : Oper} {x y : Operand} {t u e : TypeId} {ei : TInfo} {z vx vy : AV} {len n cap : Nat} {old xs : List AV} (ho : o.op = .call { callee := .builtin .append, args := #[x, y], argTypes := #[t, u] }) (A : AppTy Tb t u e ei z)
    (hx : ev fr x = some vx) (hy : ev fr y = some vy) (hvx : (vx = .nils ∧ len = 0 ∧ cap = 0) ∨ ∃ id off, vx = .slc id off len (.exact cap)) (hold : srcA Tb h ei.size vx = some (len, old)) (hsrc : srcA Tb h ei.size vy = some (n, xs))
    (hn : cap < len + n) (hb : (len + n) * ei.bytes ≤ 140737488355328) (h63 : len + n ≤ 9223372036854775807) :
    StepTo P G o fr h (.slc h.length 0 (len + n) (.opn 0 0)) (h ++ [.cells (old ++ xs) e true true]) := by
  intro N μ κ a w hh hf
  obtain ⟨it, hit, hik⟩ := A.ht
  obtain ⟨iu, hiu, hsu⟩ := A.hu
  obtain ⟨_, dt, ht⟩ := hT t it hit
  obtain ⟨_, du, hu⟩ := hT u iu hiu
  obtain ⟨te, de, hte⟩ := hT e ei A.he
  have ut := ht.uk
  simp only [hik, ukRel] at ut
  subst ut
  obtain ⟨zv, hz1, hz2, hz3⟩ := hte.zero z A.hz
  have s1 := srcA_sound hT hh hold (ev_sound hf hx).2
  have s2 := srcA_sound hT hh hsrc (ev_sound hf hy).2
  rw [← hte.size] at s1 s2
  rw [← hte.bytes] at hb
  have hes := hte.cells
  rw [← hte.size] at hes
  have hle : AVs.le h.length (old ++ xs) := by
    rw [AVs.le_iff]
    intro v hv
    have a1 := s1.2.2
    have a2 := s2.2.2
    rw [AVs.le_iff] at a1 a2
    rcases List.mem_append.1 hv with q | q
    · exact a1 v q
    · exact a2 v q
  obtain ⟨base, hbase⟩ : ∃ base, conc μ κ vx = .slice base len cap := by
    rcases hvx with ⟨rfl, rfl, rfl⟩ | ⟨id, off, rfl⟩
    · exact ⟨none, rfl⟩
    · exact ⟨_, rfl⟩
  have r := run_app_grow (P := P) (w := w) (ty := o.type) ht.und hte.info hz1 hu.und (isSrc_desc hu.uk hsu) s2.1 (olds := concs μ κ old) (base := base) (sLen := len) (sCap := cap)
    (fun w' hw' => by rw [← hbase]; exact s1.1.cells w' hw') hn h63 hb
  rw [← hz2 μ κ] at r
  have hge := grownCap_ge w (len + n) cap e
  have hzl := Nat.eq_of_beq_eq_true A.zl
  rw [← hte.size] at hzl
  have nw := hh.newOpen (w' := w.drew.alloc (.cells ((concs μ κ old).toArray ++ ((concs μ κ xs).toArray ++ Builtin.zeroCells (conc μ κ z).cells (grownCap w (len + n) cap e - (len + n)))) e)) e hle
    (extra := (Builtin.zeroCells (conc μ κ z).cells (grownCap w (len + n) cap e - (len + n))).toList) (grownCap w (len + n) cap e) rfl (by simp [concs_append]) (grow_size (ti := te) μ κ hes hzl s1.2.1 s2.2.1 hge) rfl rfl rfl
  refine ⟨_, _, _, ?_, nw.1, by simp [AV.le], nw.2⟩
  have := exec_append (P := P) (w := w) (o := o) ho hf hx hy (by rw [hbase]; exact r)
  rw [this]
  simp only [conc, upd_same, ite_self, Nat.sub_zero]

/-- Nothing is appended to no slice at all. -/
theorem st_append_nil0 (hT : TbOk P Tb) {o : Oper} {x y : Operand} {t u e : TypeId} {ei : TInfo} {z vy : AV} {xs : List AV} (ho : o.op = .call { callee := .builtin .append, args := #[x, y], argTypes := #[t, u] }) (A : AppTy Tb t u e ei z)
    (hx : ev fr x = some .nils) (hy : ev fr y = some vy) (hsrc : srcA Tb h ei.size vy = some (0, xs)) : StepTo P G o fr h .nils h := by
  intro N μ κ a w hh hf
  obtain ⟨it, hit, hik⟩ := A.ht
  obtain ⟨iu, hiu, hsu⟩ := A.hu
  obtain ⟨_, dt, ht⟩ := hT t it hit
  obtain ⟨_, du, hu⟩ := hT u iu hiu
  obtain ⟨te, de, hte⟩ := hT e ei A.he
  have ut := ht.uk
  simp only [hik, ukRel] at ut
  subst ut
  have s2 := srcA_sound hT hh hsrc (ev_sound hf hy).2
  rw [← hte.size] at s2
  have r := run_app_fit (P := P) (w := w) (ty := o.type) ht.und hte.info hu.und (isSrc_desc hu.uk hsu) s2.1 (base := none) (sLen := 0) (sCap := 0) (by omega) w rfl
  exact ⟨μ, κ, w, exec_append (P := P) (w := w) (o := o) ho hf hx hy r, hh, trivial, Ext.refl _ _ _ _⟩

/-- An append within a known capacity: in place. -/
theorem st_append_fit (hT : TbOk P Tb) {o : Oper} {x y : Operand} {t u e : TypeId} {ei : TInfo} {z vy : AV} {id off len n cap : Nat} {cs cs' xs : List AV} {ty : TypeId} {opn : Bool} (ho : o.op = .call { callee := .builtin .append, args := #[x, y], argTypes := #[t, u] }) (A : AppTy Tb t u e ei z)
    (hx : ev fr x = some (.slc id off len (.exact cap))) (hy : ev fr y = some vy) (hob : nth h id = some (.cells cs ty opn true)) (hsrc : srcA Tb h ei.size vy = some (n, xs)) (hn : len + n ≤ cap) (hov : over cs (off + len * ei.size) xs = some cs') (h1 : allOne xs = true) :
    StepTo P G o fr h (.slc id off (len + n) (.exact cap)) (setNth h id (.cells cs' ty opn true)) := by
  intro N μ κ a w hh hf
  obtain ⟨it, hit, hik⟩ := A.ht
  obtain ⟨iu, hiu, hsu⟩ := A.hu
  obtain ⟨_, dt, ht⟩ := hT t it hit
  obtain ⟨_, du, hu⟩ := hT u iu hiu
  obtain ⟨te, de, hte⟩ := hT e ei A.he
  have ut := ht.uk
  simp only [hik, ukRel] at ut
  subst ut
  have s2 := srcA_sound hT hh hsrc (ev_sound hf hy).2
  rw [nth_eq] at hob
  obtain ⟨w', r1, r2, r3⟩ := store_obj (P := P) hh hob hov h1 s2.2.2
  rw [← hte.size] at s2 r1
  have r := run_app_fit (P := P) (w := w) (ty := o.type) ht.und hte.info hu.und (isSrc_desc hu.uk hsu) s2.1 (base := some ⟨μ id, off, none⟩) (sLen := len) (sCap := cap) hn w' (by simp only [Addr.add_lit]; exact r1)
  rw [setNth_eq]
  exact ⟨μ, κ, w', exec_append (P := P) (w := w) (o := o) ho hf hx hy r, r2, by have := (ev_sound hf hx).2; simpa [AV.le] using this, r3⟩

/-- An append to a slice whose array's end is open: in place or not, it goes on under a new number. -/
theorem st_append_opn (hT : TbOk P Tb) {o : Oper} {x y : Operand} {t u e : TypeId} {ei : TInfo} {z vy : AV} {id len n : Nat} {cs xs : List AV} (ho : o.op = .call { callee := .builtin .append, args := #[x, y], argTypes := #[t, u] }) (A : AppTy Tb t u e ei z)
    (hx : ev fr x = some (.slc id 0 len (.opn 0 0))) (hy : ev fr y = some vy) (hob : nth h id = some (.cells cs e true true)) (hlen : len * ei.size ≤ cs.length) (hsrc : srcA Tb h ei.size vy = some (n, xs)) (h1 : allOne xs = true)
    (hb : (len + n) * ei.bytes ≤ 140737488355328) (h63 : len + n ≤ 9223372036854775807) :
    StepTo P G o fr h (.slc h.length 0 (len + n) (.opn 0 0)) (setNth h id .dead ++ [.cells (cs.take (len * ei.size) ++ xs) e true true]) := by
  intro N μ κ a w hh hf
  obtain ⟨it, hit, hik⟩ := A.ht
  obtain ⟨iu, hiu, hsu⟩ := A.hu
  obtain ⟨_, dt, ht⟩ := hT t it hit
  obtain ⟨_, du, hu⟩ := hT u iu hiu
  obtain ⟨te, de, hte⟩ := hT e ei A.he
  have ut := ht.uk
  simp only [hik, ukRel] at ut
  subst ut
  rw [setNth_eq]
  have hob0 := hob
  rw [nth_eq] at hob
  have s2 := srcA_sound hT hh hsrc (ev_sound hf hy).2
  obtain ⟨bo, hbo, c, fz, extra, rfl, e2, _, e4, e5⟩ := hh.obj id _ hob rfl
  have hcsz := e4 rfl
  have hes := hte.cells
  have hcx : conc μ κ (.slc id 0 len (.opn 0 0)) = .slice (some ⟨μ id, 0, none⟩) len (κ id) := by simp only [conc, ite_self, Nat.sub_zero]
  have hcl : cs.length ≤ c.size := by rw [← Array.length_toList, e2]; simp [concs_length]
  have hle : AVs.le h.length (cs.take (len * ei.size) ++ xs) := by
    have q : AVs.le h.length cs := hh.le id _ hob
    have q2 := s2.2.2
    rw [AVs.le_iff] at *
    intro v hv
    rcases List.mem_append.1 hv with p | p
    · exact q v (List.mem_of_mem_take p)
    · exact q2 v p
  by_cases hfit : len + n ≤ κ id
  · -- in place
    have hbound : len * ei.size + xs.length ≤ c.size := by
      rw [hcsz, hes, s2.2.1, ← Nat.add_mul]; exact Nat.mul_le_mul_right _ hfit
    obtain ⟨w', c', r1, r2, r3, r4, r5, r6, r7, r8, r9⟩ := run_storeCells (P := P) (μ id) e fz (len * ei.size) (concs μ κ xs) 0 w c hbo
      (fun v hv => by rw [concs_map] at hv; obtain ⟨q, hq, rfl⟩ := List.mem_map.1 hv; exact one_conc μ κ (allOne_mem h1 q hq)) (by rw [concs_length]; omega) (e5 rfl)
    have hnew : objRel P μ κ id (.cells (cs.take (len * ei.size) ++ xs) e true true) (.cells c' e fz) := by
      refine ⟨c', fz, c'.toList.drop (len * ei.size + xs.length), rfl, ?_, by simp, fun _ => by rw [r3]; exact hcsz, fun _ => by rw [r3]; exact e5 rfl⟩
      apply List.ext_getElem?
      intro j
      rw [Array.getElem?_toList, r9 j, concs_length]
      simp only [Nat.add_zero]
      have hl1 : (concs μ κ (cs.take (len * ei.size) ++ xs)).length = len * ei.size + xs.length := by
        rw [concs_length, List.length_append, List.length_take, Nat.min_eq_left hlen]
      by_cases hj : len * ei.size ≤ j ∧ j < len * ei.size + xs.length
      · rw [if_pos hj, List.getElem?_append_left (by rw [hl1]; omega), concs_get, concs_get, List.getElem?_append_right (by rw [List.length_take, Nat.min_eq_left hlen]; omega), List.length_take, Nat.min_eq_left hlen]
      · rw [if_neg hj]
        by_cases hj2 : j < len * ei.size
        · rw [List.getElem?_append_left (by rw [hl1]; omega), concs_get, List.getElem?_append_left (by rw [List.length_take, Nat.min_eq_left hlen]; exact hj2), List.getElem?_take_of_lt hj2, ← Array.getElem?_toList, e2, List.getElem?_append_left (by rw [concs_length]; omega), concs_get]
        · rw [List.getElem?_append_right (by rw [hl1]; omega), hl1, List.getElem?_drop, Array.getElem?_toList, r9]
          rw [show len * ei.size + xs.length + (j - (len * ei.size + xs.length)) = j by omega, concs_length]
          simp only [Nat.add_zero]
          rw [if_neg hj]
    have hh' := hh.update (w' := w') hob rfl r5 r2 hnew hle
    have ex1 := Ext.update (μ := μ) (κ := κ) (o' := .cells (cs.take (len * ei.size) ++ xs) e true true) hob rfl r5 r4 r6 r7 r8
    have hidl := lt_of_get hob
    have rn := hh'.rename (id := id) (by rw [List.getElem?_set_self hidl])
    have el : (h.set id (AObj.cells (cs.take (len * ei.size) ++ xs) e true true)).length = h.length := by simp
    rw [el, List.set_set] at rn
    have s3 := s2.1
    rw [← hte.size] at s3 r1
    have r := run_app_fit (P := P) (w := w) (ty := o.type) ht.und hte.info hu.und (isSrc_desc hu.uk hsu) s3 (base := some ⟨μ id, 0, none⟩) (sLen := len) (sCap := κ id) hfit w' (by simp only [Addr.add_lit, Nat.zero_add]; exact r1)
    refine ⟨_, _, w', ?_, rn.1, by simp [AV.le], ex1.trans rn.2⟩
    have := exec_append (P := P) (w := w) (o := o) ho hf hx hy (by rw [hcx]; exact r)
    rw [this]
    simp only [conc, upd_same, ite_self, Nat.sub_zero]
  · -- anew
    have hn : κ id < len + n := by omega
    obtain ⟨zv, hz1, hz2, hz3⟩ := hte.zero z A.hz
    have s3 := s2.1
    rw [← hte.size] at s3
    rw [← hte.bytes] at hb
    have hold : ∀ w' : World, w'.heap = w.heap → (Builtin.firstCells te.size len (.slice (some ⟨μ id, 0, none⟩) len (κ id))).run P w' = .ok (concs μ κ (cs.take (len * ei.size))).toArray w' := by
      intro w' hw'
      refine run_firstCells_some (P := P) w' te.size len _ len (κ id) _ (by rw [concs_length, List.length_take, Nat.min_eq_left hlen, hte.size]) ?_
      intro j u hu
      rw [concs_get, Option.map_eq_some_iff] at hu
      obtain ⟨q, hq, rfl⟩ := hu
      rw [Addr.add_lit, Nat.zero_add]
      refine cells_read (c := c) (by rw [hw']; exact hbo) e2 _ _ ?_
      rw [List.getElem?_take] at hq
      split at hq
      · exact hq
      · simp at hq
    have r := run_app_grow (P := P) (w := w) (ty := o.type) ht.und hte.info hz1 hu.und (isSrc_desc hu.uk hsu) s3 (olds := concs μ κ (cs.take (len * ei.size))) hold hn h63 hb
    rw [← hz2 μ κ] at r
    have hge := grownCap_ge w (len + n) (κ id) e
    have hzl := Nat.eq_of_beq_eq_true A.zl
    have hk := hh.kill id
    have el : (h.set id AObj.dead).length = h.length := by simp
    have nw := hk.newOpen (w' := w.drew.alloc (.cells ((concs μ κ (cs.take (len * ei.size))).toArray ++ ((concs μ κ xs).toArray ++ Builtin.zeroCells (conc μ κ z).cells (grownCap w (len + n) (κ id) e - (len + n)))) e)) e (cs := cs.take (len * ei.size) ++ xs) (by rw [el]; exact hle)
      (extra := (Builtin.zeroCells (conc μ κ z).cells (grownCap w (len + n) (κ id) e - (len + n))).toList) (grownCap w (len + n) (κ id) e) rfl (by simp [concs_append])
      (grow_size (ti := te) μ κ hes hzl (by rw [List.length_take, Nat.min_eq_left hlen]) s2.2.1 hge) rfl rfl rfl
    rw [el] at nw
    refine ⟨_, _, _, ?_, nw.1, by simp [AV.le], (Ext.kill id).trans nw.2⟩
    have := exec_append (P := P) (w := w) (o := o) ho hf hx hy (by rw [hcx]; exact r)
    rw [this]
    simp only [conc, upd_same, ite_self, Nat.sub_zero]
end
end Go.Fm
