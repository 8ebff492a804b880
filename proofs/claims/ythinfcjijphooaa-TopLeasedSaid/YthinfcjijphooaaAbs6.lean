/- Operations that read. -/
import Derived.Laws.Unary
import Derived.Test.YthinfcjijphooaaAbs5
namespace Go.Abs
set_option linter.unusedVariables false
set_option linter.unusedSimpArgs false
open Go

section
variable {P : Program} {cx : Ctx} {o : Oper} {env : List V} {H : List Obj} {id : Nat} {K : Eff → Prop}

def Fine (P : Program) (o : Oper) (env : List V) (H : List Obj) (id : Nat) (K : Eff → Prop) : Prop := ∃ e, K e ∧ Good P o env H id e

theorem fine_move {x : Operand} (ho : o.op = .move x ∨ o.op = .assign x) (h : optK (opnd env x) fun v => K (ret v)) : Fine P o env H id K := by
  obtain ⟨u, hu, h⟩ := optK_some h
  refine ⟨_, h, Good.pure fun m a hs hon _ _ => ⟨a.eval x, ?_, hon x ?_ u hu⟩⟩
  · rcases ho with ho | ho <;> simp [execOp, ho]
  · rcases ho with ho | ho <;> simp [ho, Op.operands]

theorem fine_pick {c x y : Operand} (ho : o.op = .pick c x y) (h : evC cx env H id (.pick c x y) K) : Fine P o env H id K := by
  simp only [evC] at h
  split at h
  · rename_i cv av bv h1 h2 h3
    split at h
    · rename_i t ht
      have ht := V.bool?_some ht
      subst ht
      have yes : t = true → K (ret av) → Fine P o env H id K := by
        rintro rfl h
        refine ⟨_, h, Good.pure fun m a hs hon _ _ => ⟨a.eval x, ?_, hon x (by simp [ho, Op.operands]) _ h2⟩⟩
        have := VR.bool (hon c (by simp [ho, Op.operands]) _ h1)
        simp [execOp, ho, this, asBool]
      have no : t = false → K (ret bv) → Fine P o env H id K := by
        rintro rfl h
        refine ⟨_, h, Good.pure fun m a hs hon _ _ => ⟨a.eval y, ?_, hon y (by simp [ho, Op.operands]) _ h3⟩⟩
        have := VR.bool (hon c (by simp [ho, Op.operands]) _ h1)
        simp [execOp, ho, this, asBool]
      rcases br_or h with ⟨e, h⟩ | ⟨e, h⟩
      · exact yes e h
      · exact no e h
    · exact h.elim
  · exact h.elim

theorem fine_binOp (hcx : CxOk P cx) {op : BinOp} {t t' : TypeId} {x y : Operand} (ho : o.op = .binOp op t x y t') (h : evC cx env H id (.binOp op t x y t') K) : Fine P o env H id K := by
  simp only [evC] at h
  split at h
  · rename_i av bv h1 h2
    obtain ⟨u, hu, hr⟩ := binV_sound hcx h
    refine ⟨_, hu, Good.pure fun m a hs hon _ _ => ?_⟩
    obtain ⟨v, hv, hR⟩ := hr m (a.eval x) (a.eval y) x y m.w (hon x (by simp [ho, Op.operands]) _ h1) (hon y (by simp [ho, Op.operands]) _ h2)
    refine ⟨v, ?_, hR⟩
    simp only [execOp, ho, Sem.run_bind] at hv ⊢
    rw [hv]; simp
  · exact h.elim

theorem fine_unOp {op : UnOp} {t : TypeId} {x : Operand} (ho : o.op = .unOp op t x) (h : evC cx env H id (.unOp op t x) K) : Fine P o env H id K := by
  simp only [evC] at h
  obtain ⟨u, hu, h⟩ := optK_some h
  unfold unV at h
  split at h
  · split at h
    · rename_i b hb
      have hb := V.bool?_some hb; subst hb
      refine ⟨_, h, Good.pure fun m a hs hon _ _ => ⟨.bool !b, ?_, VR.mk_bool⟩⟩
      have := VR.bool (hon x (by simp [ho, Op.operands]) _ hu)
      simp [execOp, ho, this, Go.Op.unary]
    · exact h.elim
  · split at h
    · rename_i k n hb
      have hb := V.int?_some hb; subst hb
      refine ⟨_, h, Good.pure fun m a hs hon _ _ => ⟨.int k (k.wrap (0 - n)), ?_, VR.mk_int (inK_wrap _ _)⟩⟩
      have := (VR.int (hon x (by simp [ho, Op.operands]) _ hu)).1
      simp [execOp, ho, this, Go.Op.unary, Go.Op.intArith]
    · exact h.elim
  · split at h
    · rename_i k n hb
      have hb := V.int?_some hb; subst hb
      refine ⟨_, h, Good.pure fun m a hs hon _ _ => ⟨.int k (bitsI .xor k (if k.signed then -1 else k.max) n), ?_, VR.mk_int (inK_wrap _ _)⟩⟩
      have := (VR.int (hon x (by simp [ho, Op.operands]) _ hu)).1
      simp only [execOp, ho, this, Go.Op.unary]
      rfl
    · exact h.elim
  · exact h.elim

theorem fine_nilCheck {x : Operand} (ho : o.op = .nilCheck x) (h : evC cx env H id (.nilCheck x) K) : Fine P o env H id K := by
  simp only [evC] at h
  split at h
  · rename_i p hu
    refine ⟨_, h, Good.pure fun m a hs hon _ _ => ?_⟩
    have hv := hon x (by simp [ho, Op.operands]) _ hu
    refine ⟨a.eval x, ?_, hv⟩
    obtain ⟨b, of, e, _⟩ := VR.pt hv
    simp [execOp, ho, e]
  · rename_i s p hu
    refine ⟨_, h, Good.pure fun m a hs hon _ _ => ?_⟩
    have hv := hon x (by simp [ho, Op.operands]) _ hu
    refine ⟨a.eval x, ?_, hv⟩
    obtain ⟨b, of, ds, e, _⟩ := VR.ip hv
    simp [execOp, ho, e]
  · rename_i f c p hu
    refine ⟨_, h, Good.pure fun m a hs hon _ _ => ?_⟩
    have hv := hon x (by simp [ho, Op.operands]) _ hu
    refine ⟨a.eval x, ?_, hv⟩
    obtain ⟨vs, e, _⟩ := VR.fn hv
    simp [execOp, ho, e]
  · exact h.elim

/-! #### Parts of aggregates -/

theorem compV_cells {m : M} : ∀ {t : Ty} {cs : List Value} {x : t.El} {j : Nat} {u : V}, CR m false t cs x → compV t x j = some u →
    ∃ p c q, cs = p ++ c ++ q ∧ p.length = offOf t j ∧ c.length = u.t.cells ∧ CR m false u.t c u.x ∧ compT t j = some u.t
  | .pair a b, cs, x, 0, u, h, hu => by
    simp only [compV, Option.some.injEq] at hu; subst hu
    simp only [CR] at h; obtain ⟨c1, c2, rfl, l1, r1, r2⟩ := h
    exact ⟨[], c1, c2, rfl, rfl, l1, r1, rfl⟩
  | .pair a b, cs, x, j + 1, u, h, hu => by
    simp only [compV] at hu
    simp only [CR] at h; obtain ⟨c1, c2, rfl, l1, r1, r2⟩ := h
    obtain ⟨p, c, q, rfl, l2, l3, r3, e⟩ := compV_cells r2 hu
    exact ⟨c1 ++ p, c, q, by simp, by simp [offOf, l1, l2], l3, r3, by simpa [compT] using e⟩
  | .unit, _, _, _, _, _, hu | .int _, _, _, _, _, _, hu | .bool, _, _, _, _, _, hu | .str, _, _, _, _, _, hu | .sl _, _, _, _, _, _, hu | .arr _ _, _, _, _, _, _, hu | .ip _, _, _, _, _, _, hu | .rf _, _, _, _, _, _, hu
  | .pt, _, _, _, _, _, hu | .nilS, _, _, _, _, _, hu | .nilP, _, _, _, _, _, hu | .nilF, _, _, _, _, _, hu | .nilM, _, _, _, _, _, hu | .fn _ _, _, _, _, _, _, hu | .tup _, _, _, _, _, _, hu | .undef, _, _, _, _, _, hu => by
    simp [compV] at hu

theorem compV_pair {t : Ty} {x : t.El} {j : Nat} {u : V} (h : compV t x j = some u) : t.isAgg = true := by
  cases t <;> first | (simp [compV] at h; done) | rfl

/-- A part, loaded out of an aggregate's cells. -/
theorem run_part_cells {m : M} {w : World} {u : V} {t' off : Nat} {cs : Array Value} {p c q : List Value} (hi : ∀ w, (isAgg t').run P w = .ok u.t.isAgg w) (hz : ∀ w, (sizeOf t').run P w = .ok u.t.cells w)
    (hc : cs.toList = p ++ c ++ q) (hp : p.length = off) (hl : c.length = u.t.cells) (hr : CR m false u.t c u.x) : ∃ v, (part t' cs off).run P w = .ok v w ∧ VR m v u := by
  have hlen : cs.size = p.length + (u.t.cells + q.length) := by rw [← Array.length_toList, hc]; simp [hl, Nat.add_assoc]
  obtain ⟨v, g, k⟩ := run_part (P := P) (w := w) (off := off) hi hz cs (fun h => isAgg_cells h) (by omega)
  refine ⟨v, g, VR_of_parts hr ⟨fun hA => ?_, fun hA => ?_⟩⟩
  · rw [k.1 hA]; congr 1; apply Array.toList_inj.1; simp [hc, ← hp, ← hl, List.take_append_of_le_length]
  · have := isAgg_cells hA
    have kk := k.2 hA
    obtain ⟨z, rfl⟩ : ∃ z, c = [z] := by
      match c, (hl.trans this) with | [z], _ => exact ⟨z, rfl⟩
    rw [← Array.getElem?_toList, hc, ← hp] at kk; simpa using kk

theorem known_ne {k : TK} (h : k.known = true) : k ≠ .other := by intro e; rw [e] at h; simp [TK.known] at h

/-- A type fits an abstract value. -/
theorem fits_run (hcx : CxOk P cx) {t : Nat} {u : V} (hf : fits u (cx.ty t) = true) :
    (∀ w, (isAgg t).run P w = .ok u.t.isAgg w) ∧ (∀ w, (sizeOf t).run P w = .ok u.t.cells w) ∧ u.t.mem = true := by
  simp only [fits, Bool.and_eq_true, beq_iff_eq, decide_eq_true_eq] at hf
  obtain ⟨⟨⟨h1, h2⟩, h3⟩, h4⟩ := hf
  have hT := hcx t (known_ne h4)
  exact ⟨fun w => by rw [h1]; exact hT.agg w, fun w => by rw [h2]; exact hT.size w, h3⟩

theorem struct_fields (hcx : CxOk P cx) {t : Nat} {fs : List (Nat × Nat)} (hk : (cx.ty t).kind = .struct fs) :
    ∃ fields, P.underlying t = some (.struct fields) ∧ fields.toList.map (fun f => (f.offset, f.type)) = fs := by
  have := (hcx t (by rw [hk]; simp)).kind
  rw [hk] at this; exact this

theorem field_at {fields : Array Field} {fs : List (Nat × Nat)} (h : fields.toList.map (fun f => (f.offset, f.type)) = fs) {j : Nat} (hj : j < fs.length) :
    ∃ f, fields[j]? = some f ∧ fs.getD j default = (f.offset, f.type) := by
  subst h
  simp only [List.length_map, Array.length_toList] at hj
  refine ⟨fields[j], by simp [hj], ?_⟩
  simp [List.getD, hj]

theorem fine_field (hcx : CxOk P cx) {t j : Nat} {x : Operand} (ho : o.op = .field t x j) (h : evC cx env H id (.field t x j) K) : Fine P o env H id K := by
  simp only [evC] at h
  split at h
  · rename_i fs hk
    obtain ⟨v, hv, h⟩ := optK_some h
    obtain ⟨h0, h⟩ := gd_true h
    obtain ⟨u, hu, h⟩ := optK_some h
    obtain ⟨hf, h⟩ := gd_true h
    simp only [Bool.and_eq_true, decide_eq_true_eq] at h0
    obtain ⟨fields, hu1, hu2⟩ := struct_fields hcx hk
    obtain ⟨f, hf1, hf2⟩ := field_at hu2 h0.2
    rw [hf2] at hf h0
    obtain ⟨g1, g2, _⟩ := fits_run hcx hf
    refine ⟨_, h, Good.pure fun m a hs hon _ _ => ?_⟩
    have hx := hon x (by simp [ho, Op.operands]) _ hv
    obtain ⟨vt, vx⟩ := v
    have hA := compV_pair hu
    simp only [VR, hA] at hx
    obtain ⟨cs, e, hx⟩ := hx
    obtain ⟨p, c, q, e1, e2, e3, e4, _⟩ := compV_cells hx hu
    obtain ⟨v', r1, r2⟩ := run_part_cells (P := P) (w := m.w) (off := f.offset) g1 g2 e1 (by rw [e2]; exact h0.1) e3 e4
    refine ⟨v', ?_, r2⟩
    simp [execOp, ho, Go.Instr.field, run_underlying hu1, hf1, e, asAgg, r1]
  · exact h.elim

theorem tup_at {m : M} : ∀ {t : Ty} {vs : List Value} {x : t.El} {j : Nat} {u : V}, CR m true t vs x → (tupParts t x)[j]? = some u → ∃ v, vs[j]? = some v ∧ VR m v u
  | .pair a b, vs, x, j, u, h, hu => by
    simp only [CR] at h
    obtain ⟨v, r, rfl, h1, h2⟩ := h
    simp only [tupParts] at hu
    cases j with
    | zero => simp only [List.getElem?_cons_zero, Option.some.injEq] at hu; subst hu; exact ⟨v, rfl, h1⟩
    | succ j => simp only [List.getElem?_cons_succ] at hu ⊢; exact tup_at h2 hu
  | .unit, _, _, _, _, _, hu | .int _, _, _, _, _, _, hu | .bool, _, _, _, _, _, hu | .str, _, _, _, _, _, hu | .sl _, _, _, _, _, _, hu | .arr _ _, _, _, _, _, _, hu | .ip _, _, _, _, _, _, hu | .rf _, _, _, _, _, _, hu
  | .pt, _, _, _, _, _, hu | .nilS, _, _, _, _, _, hu | .nilP, _, _, _, _, _, hu | .nilF, _, _, _, _, _, hu | .nilM, _, _, _, _, _, hu | .fn _ _, _, _, _, _, _, hu | .tup _, _, _, _, _, _, hu | .undef, _, _, _, _, _, hu => by
    simp [tupParts] at hu

theorem VR.tup {m : M} {v : Value} {t : Ty} {x : (Ty.tup t).El} (h : VR m v ⟨.tup t, x⟩) : ∃ vs : Array Value, v = .tuple vs ∧ CR m true t vs.toList x := by
  simp only [VR, Ty.isAgg, CR] at h; obtain ⟨vs, h, g⟩ := h; simp at h; exact ⟨vs, h, g⟩

theorem fine_extract {j : Nat} {x : Operand} (ho : o.op = .extract x j) (h : evC cx env H id (.extract x j) K) : Fine P o env H id K := by
  simp only [evC] at h
  split at h
  · rename_i t v hv
    obtain ⟨u, hu, h⟩ := optK_some h
    refine ⟨_, h, Good.pure fun m a hs hon _ _ => ?_⟩
    have hx := hon x (by simp [ho, Op.operands]) _ hv
    obtain ⟨vs, e, hx⟩ := VR.tup hx
    obtain ⟨v', h1, h2⟩ := tup_at hx hu
    refine ⟨v', ?_, h2⟩
    rw [Array.getElem?_toList] at h1
    simp [execOp, ho, e, Go.Instr.extract, h1]
  · exact h.elim

/-! #### Loads -/

theorem flatten_split : ∀ {css : List (List Value)} {i k : Nat}, i < css.length → (∀ j, j < css.length → (css.getD j []).length = k) →
    ∃ p q, css.flatten = p ++ css.getD i [] ++ q ∧ p.length = i * k
  | [], i, k, h, _ => by simp at h
  | c :: r, 0, k, _, _ => ⟨[], r.flatten, by simp, by simp⟩
  | c :: r, i + 1, k, h, hk => by
    obtain ⟨p, q, e, l⟩ := flatten_split (css := r) (i := i) (k := k) (by simpa using h) (fun j hj => by have := hk (j + 1) (by simpa using hj); simpa using this)
    have h0 := hk 0 (by simp)
    refine ⟨c ++ p, q, by simp [e], ?_⟩
    simp at h0; simp [l, h0, Nat.add_mul]; omega

theorem getV_cells {m : M} : ∀ {path : List Stp} {t : Ty} {cs : List Value} {x : t.El} {u : V}, CR m false t cs x → getV ⟨t, x⟩ path = some u → okT t path →
    ∃ p c q, cs = p ++ c ++ q ∧ p.length = pathOff path ∧ c.length = u.t.cells ∧ CR m false u.t c u.x
  | [], t, cs, x, u, h, hu, _ => by
    simp only [getV, Option.some.injEq] at hu; subst hu
    exact ⟨[], cs, [], by simp, rfl, CR.len h, h⟩
  | .fld off j :: r, t, cs, x, u, h, hu, hk => by
    simp only [getV] at hu
    split at hu
    · rename_i hoff
      split at hu
      · rename_i v hv
        obtain ⟨p, c, q, e1, e2, e3, e4, e5⟩ := compV_cells h hv
        simp only [okT, e5] at hk
        obtain ⟨p', c', q', f1, f2, f3, f4⟩ := getV_cells (path := r) (t := v.t) (x := v.x) e4 hu hk.2
        refine ⟨p ++ p', c', q' ++ q, by rw [e1, f1]; simp, ?_, f3, f4⟩
        simp [pathOff, e2, f2, hk.1]
      · cases hu
    · cases hu
  | .idx sz i :: r, t, cs, x, u, h, hu, hk => by
    cases t <;> simp only [okT] at hk
    rename_i n t
    simp only [getV] at hu
    split at hu
    · simp only [CR] at h
      obtain ⟨h0, css, rfl, hl, hi⟩ := h
      obtain ⟨g1, g2⟩ := hi i hk.2.1
      obtain ⟨p, q, e1, e2⟩ := flatten_split (css := css) (i := i) (k := t.cells) (by omega) (fun j hj => (hi j (by omega)).1)
      obtain ⟨p', c', q', f1, f2, f3, f4⟩ := getV_cells (path := r) (t := t) g2 hu hk.2.2
      refine ⟨p ++ p', c', q' ++ q, by rw [e1, f1]; simp, ?_, f3, f4⟩
      simp [pathOff, e2, f2, hk.1]
    · cases hu

theorem At.part {w : World} {b o : Nat} {p c q : List Value} (h : At w b o (p ++ c ++ q)) : At w b (o + p.length) c := fun j v hj => by
  have hlt : j < c.length := by
    rcases Nat.lt_or_ge j c.length with h' | h'
    · exact h'
    · rw [List.getElem?_eq_none h'] at hj; cases hj
  have := h (p.length + j) v (by
    rw [List.append_assoc, List.getElem?_append_right (by omega), List.getElem?_append_left (by omega)]
    simpa using hj)
  rwa [← Nat.add_assoc] at this

theorem run_loadVar_at {m : M} {t : Nat} {u : V} {b o : Nat} {c : List Value} (h1 : ∀ w, (isAgg t).run P w = .ok u.t.isAgg w) (h2 : ∀ w, (sizeOf t).run P w = .ok u.t.cells w)
    (hat : At m.w b o c) (hl : c.length = u.t.cells) (hr : CR m false u.t c u.x) : ∃ v, (loadVar t ⟨b, o, none⟩).run P m.w = .ok v m.w ∧ VR m v u := by
  cases hA : u.t.isAgg
  · have hc := isAgg_cells hA
    obtain ⟨z, rfl⟩ : ∃ z, c = [z] := by
      match c, (hl.trans hc) with | [z], _ => exact ⟨z, rfl⟩
    have := hat 0 z rfl
    refine ⟨z, ?_, VR_of_parts hr ⟨(fun h => by rw [hA] at h; cases h), (fun _ => rfl)⟩⟩
    simp only [Nat.add_zero] at this
    simp [loadVar, h1, hA, load, Sem.run, this]
  · have hl2 := run_loadCells_list (P := P) m.w ⟨b, o, none⟩ c (fun j v hj => by
      have := hat j v hj
      unfold Addr.add; split
      · rename_i hj0; subst hj0; simpa using this
      · simpa using this)
    refine ⟨.agg c.toArray, ?_, VR_of_parts hr ⟨(fun _ => rfl), (fun h => by rw [hA] at h; cases h)⟩⟩
    rw [hl] at hl2
    simp [loadVar, h1, hA, h2, hl2]


/-- Where a part of an object lies. -/
theorem getO_at {m : M} (hs : StR m) {i : Nat} {path : List Stp} {u : V} {b base cap : Nat} (hi : i < m.H.length) (hok : okO (m.H.getD i .none) path)
    (hρ : m.ρ i = some (b, base, cap)) (hu : getO (m.H.getD i .none) path = some u) :
    ∃ c, At m.w b (base + pathOff path) c ∧ c.length = u.t.cells ∧ CR m false u.t c u.x := by
  have hob := hs.ok i hi
  generalize m.H.getD i .none = ob at *
  cases ob with
  | none => simp [getO] at hu
  | free => simp [getO] at hu
  | box v fz =>
    simp only [OR] at hob
    obtain ⟨b', base', cap', cs, e, _, hat, hc, _⟩ := hob
    rw [hρ] at e; simp only [Option.some.injEq, Prod.mk.injEq] at e; obtain ⟨rfl, rfl, rfl⟩ := e
    simp only [getO] at hu
    simp only [okO] at hok
    obtain ⟨p, c, q, rfl, e2, e3, e4⟩ := getV_cells (x := v.x) hc hu hok
    exact ⟨c, by rw [← e2]; exact hat.part, e3, e4⟩
  | row t l fz =>
    simp only [OR] at hob
    rcases hob with ⟨_, hob⟩ | ⟨b', base', cap', e, _, _, _, hel, _⟩
    · rw [hρ] at hob; cases hob
    rw [hρ] at e; simp only [Option.some.injEq, Prod.mk.injEq] at e; obtain ⟨rfl, rfl, rfl⟩ := e
    cases path with
    | nil => simp [getO] at hu
    | cons s r =>
      cases s with
      | fld _ _ => simp [getO] at hu
      | idx sz k =>
        simp only [getO] at hu
        split at hu
        · simp only [okO] at hok
          obtain ⟨ds, d1, d2, d3⟩ := hel k hok.2.1
          obtain ⟨p, c, q, rfl, e2, e3, e4⟩ := getV_cells d3 hu hok.2.2
          refine ⟨c, ?_, e3, e4⟩
          have := d2.part
          rw [e2] at this
          simpa [pathOff, hok.1, Nat.add_assoc] using this
        · cases hu

/-- A row's elements, side by side. -/
theorem row_cells {m : M} {t : Ty} {b base : Nat} : ∀ (l : List t.El) (k : Nat), (∀ i, i < l.length → ∃ ds, ds.length = t.cells ∧ At m.w b (base + (k + i) * t.cells) ds ∧ CR m false t ds (l.getD i t.dflt)) →
    ∃ css : List (List Value), css.length = l.length ∧ At m.w b (base + k * t.cells) css.flatten ∧ ∀ i, i < l.length → (css.getD i []).length = t.cells ∧ CR m false t (css.getD i []) (l.getD i t.dflt)
  | [], k, _ => ⟨[], rfl, by intro j v h; simp at h, by simp⟩
  | x :: l, k, h => by
    obtain ⟨ds, d1, d2, d3⟩ := h 0 (by simp)
    obtain ⟨css, c1, c2, c3⟩ := row_cells l (k + 1) (fun i hi => by
      have := h (i + 1) (by simpa using hi)
      simpa [Nat.add_assoc, Nat.add_comm 1] using this)
    refine ⟨ds :: css, by simp [c1], ?_, ?_⟩
    · intro j v hj
      simp only [List.flatten_cons] at hj
      rcases Nat.lt_or_ge j ds.length with hlt | hge
      · rw [List.getElem?_append_left hlt] at hj
        simpa using d2 j v hj
      · rw [List.getElem?_append_right hge] at hj
        have := c2 (j - ds.length) v hj
        rw [show base + (k + 1) * t.cells + (j - ds.length) = base + k * t.cells + j by rw [Nat.add_mul]; omega] at this
        exact this
    · intro i hi
      cases i with
      | zero => simpa using ⟨d1, by simpa using d3⟩
      | succ i => simpa using c3 i (by simpa using hi)

theorem load_key {m : M} (hs : StR m) {i : Nat} {path : List Stp} {u : V} {ti : TI} (hu : loadO (m.H.getD i .none) path ti = some u) (hi : i < m.H.length) (hok : okO (m.H.getD i .none) path) {b base cap : Nat} (hρ : m.ρ i = some (b, base, cap)) :
    ∃ c, At m.w b (base + pathOff path) c ∧ c.length = u.t.cells ∧ CR m false u.t c u.x := by
  unfold loadO at hu
  split at hu
  · rename_i t' l fz heq
    split at hu
    · rename_i n hk
      split at hu
      · rename_i hl
        simp only [decide_eq_true_eq] at hl
        simp only [Option.some.injEq] at hu; subst hu
        have hob := hs.ok i hi
        rw [heq] at hob
        simp only [OR] at hob
        rcases hob with ⟨_, hob⟩ | ⟨b', base', cap', e', _, _, _, hel, _⟩
        · rw [hρ] at hob; cases hob
        rw [hρ] at e'; simp only [Option.some.injEq, Prod.mk.injEq] at e'; obtain ⟨rfl, rfl, rfl⟩ := e'
        obtain ⟨css, c1, c2, c3⟩ := row_cells l 0 (fun i hi => by simpa using hel i hi)
        refine ⟨css.flatten, by simpa [pathOff] using c2, ?_, ?_⟩
        · rw [flatten_len (k := t'.cells) (fun j hj => (c3 j (by omega)).1), c1, hl]; simp [Ty.cells]
        · simp only [CR]; exact ⟨hl, css, rfl, by omega, fun j hj => c3 j (by omega)⟩
      · cases hu
    · cases hu
  · exact getO_at hs hi hok hρ hu

theorem fine_load (hcx : CxOk P cx) {t : Nat} {x : Operand} (ho : o.op = .load t x) (h : evC cx env H id (.load t x) K) : Fine P o env H id K := by
  simp only [evC] at h
  split at h
  · rename_i i path hx
    obtain ⟨u, hu, h⟩ := optK_some h
    obtain ⟨hf, h⟩ := gd_true h
    obtain ⟨g1, g2, _⟩ := fits_run hcx hf
    refine ⟨_, h, Good.pure fun m a hs hon hlen hrd => ?_⟩
    have hv := hon x (by simp [ho, Op.operands]) _ hx
    obtain ⟨b, of, e, hi, hor⟩ := VR.pt hv
    have hrd := (hrd i (by simp)).2
    simp only at hi hor
    rw [← hrd] at hu
    rcases hor with hor | ⟨hok, base, cap, hρ, rfl⟩
    · rw [hor] at hu; simp [loadO, getO] at hu
    · have key : ∃ c, At m.w b (base + pathOff path) c ∧ c.length = u.t.cells ∧ CR m false u.t c u.x := by
        unfold loadO at hu
        split at hu
        · rename_i t' l fz heq
          split at hu
          · rename_i n hk
            split at hu
            · rename_i hl
              simp only [decide_eq_true_eq] at hl
              simp only [Option.some.injEq] at hu; subst hu
              have hob := hs.ok i hi
              rw [heq] at hob
              simp only [OR] at hob
              rcases hob with ⟨_, hob⟩ | ⟨b', base', cap', e', _, _, _, hel, _⟩
              · rw [hρ] at hob; cases hob
              rw [hρ] at e'; simp only [Option.some.injEq, Prod.mk.injEq] at e'; obtain ⟨rfl, rfl, rfl⟩ := e'
              obtain ⟨css, c1, c2, c3⟩ := row_cells l 0 (fun i hi => by simpa using hel i hi)
              refine ⟨css.flatten, by simpa [pathOff] using c2, ?_, ?_⟩
              · rw [flatten_len (k := t'.cells) (fun j hj => (c3 j (by omega)).1), c1, hl]; simp [Ty.cells]
              · simp only [CR]; exact ⟨hl, css, rfl, by omega, fun j hj => c3 j (by omega)⟩
            · cases hu
          · cases hu
        · exact getO_at hs hi hok hρ hu
      obtain ⟨c, c1, c2, c3⟩ := key
      obtain ⟨v, r1, r2⟩ := run_loadVar_at (P := P) g1 g2 c1 c2 c3
      exact ⟨v, by simp [execOp, ho, Go.Instr.loadAt, Go.Instr.sureAddr, e, r1], r2⟩
  · rename_i s y hx
    obtain ⟨hf, h⟩ := gd_true h
    obtain ⟨g1, g2, _⟩ := fits_run hcx hf
    refine ⟨_, h, Good.pure fun m a hs hon hlen hrd => ?_⟩
    have hv := hon x (by simp [ho, Op.operands]) _ hx
    obtain ⟨b, of, ds, e, _, h1, h2, h3⟩ := VR.ip hv
    obtain ⟨v, r1, r2⟩ := run_loadVar_at (P := P) (u := ⟨s, y⟩) g1 g2 h2 h1 h3
    exact ⟨v, by simp [execOp, ho, Go.Instr.loadAt, Go.Instr.sureAddr, e, r1], r2⟩
  · exact h.elim

end
end Go.Abs
