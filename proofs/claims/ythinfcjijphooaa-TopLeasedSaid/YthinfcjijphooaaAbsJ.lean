/- Append: the cases. -/
import Derived.Test.YthinfcjijphooaaAbsI
namespace Go.Abs
set_option linter.unusedVariables false
set_option linter.unusedSimpArgs false
open Go

structure View (m : M) (i : Nat) (t : Ty) (l : List t.El) (a : Option Addr) (len c off : Nat) : Prop where
  hi : i < m.H.length
  ob : m.H.getD i .none = .row t l false
  le : off + len ≤ l.length
  ge : l.length ≤ off + c
  lc : len ≤ c
  lim : len ≤ LIM
  at_ : c = 0 ∨ ∃ b base cap, m.ρ i = some (b, base, cap) ∧ a = some ⟨b, base + off * t.cells, none⟩ ∧ off + c ≤ cap

theorem View.of {m : M} {i : Nat} {t : Ty} {l : List t.El} {v : Value} {q : Option (Nat × Nat)} (h : VR m v ⟨.rf t, (i, q)⟩) (ho : m.H.getD i .none = .row t l false) :
    ∃ a c, v = .slice a (rfLen l.length q) c ∧ View m i t l a (rfLen l.length q) c (rfOff q) := by
  have hv := VR.rf h
  simp only [CR] at hv
  obtain ⟨ad, n, c, e1, g1, g2, g3, g4⟩ := hv
  simp only [List.cons.injEq, and_true] at e1
  subst e1
  rw [ho] at g4
  obtain ⟨_, g4⟩ := g4
  cases q with
  | none =>
    obtain ⟨rfl, g5⟩ := g4
    refine ⟨ad, c, rfl, g3, ho, by simp [rfOff, rfLen], by simpa [rfOff] using g1, g1, g2, ?_⟩
    rcases g5 with h | ⟨b, base, cap, h1, h2, h3⟩
    · exact .inl h
    · exact .inr ⟨b, base, cap, h1, by simpa [rfOff] using h2, by simpa [rfOff] using h3⟩
  | some q =>
    obtain ⟨off, len⟩ := q
    obtain ⟨rfl, g6, g7, g5⟩ := g4
    exact ⟨ad, c, rfl, g3, ho, g6, g7, g1, g2, g5⟩

theorem View.read {P : Program} {m : M} (hs : StR m) {i : Nat} {t : Ty} {l : List t.El} {a : Option Addr} {len c off : Nat} (h : View m i t l a len c off) :
    ∃ css : List (List Value), css.length = ((l.drop off).take len).length ∧ (∀ k, k < ((l.drop off).take len).length → (css.getD k []).length = t.cells ∧ CR m false t (css.getD k []) (((l.drop off).take len).getD k t.dflt)) ∧
      (Go.Builtin.firstCells t.cells len (.slice a len c)).run P m.w.drew = .ok css.flatten.toArray m.w.drew := by
  have hlen : ((l.drop off).take len).length = len := by have := h.le; simp; omega
  by_cases h0 : len = 0
  · subst h0
    refine ⟨[], by simp, by simp, ?_⟩
    cases a <;> simp [Go.Builtin.firstCells, loadCells, loadCellsFrom]
  · have hok := hs.ok i h.hi
    rw [h.ob] at hok
    simp only [OR] at hok
    have hle := h.le
    have hlc := h.lc
    rcases hok with ⟨e, _⟩ | ⟨b, base, cap, r1, r2, r3, r3', r4, r5⟩
    · rw [e] at hle; simp at hle; omega
    · rcases h.at_ with e | ⟨b', base', cap', e1, e2, e3⟩
      · omega
      · rw [r1] at e1; simp only [Option.some.injEq, Prod.mk.injEq] at e1
        obtain ⟨rfl, rfl, rfl⟩ := e1
        subst e2
        obtain ⟨css, c1, c2, c3⟩ := row_cells (m := m) (t := t) (b := b) (base := base + off * t.cells) ((l.drop off).take len) 0 (fun k hk => by
          rw [hlen] at hk
          obtain ⟨ds, q1, q2, q3⟩ := r4 (off + k) (by omega)
          refine ⟨ds, q1, ?_, ?_⟩
          · rw [show base + off * t.cells + (0 + k) * t.cells = base + (off + k) * t.cells by rw [Nat.zero_add, Nat.add_mul]; omega]; exact q2
          · have : ((l.drop off).take len).getD k t.dflt = l.getD (off + k) t.dflt := by
              simp only [List.getD_eq_getElem?_getD]; rw [List.getElem?_take_of_lt hk, List.getElem?_drop]
            rw [this]; exact q3)
        refine ⟨css, c1, c3, ?_⟩
        have hl2 : css.flatten.length = len * t.cells := by rw [flatten_len (k := t.cells) (fun j hj => (c3 j (by omega)).1), c1, hlen]
        have := run_loadCells_list (P := P) m.w.drew ⟨b, base + off * t.cells, none⟩ css.flatten (fun j v hj => by
          rw [add_off]; have := c2 j v hj; simpa using this)
        rw [hl2] at this
        simp only [Go.Builtin.firstCells, this]

theorem place_row {m : M} {t : Ty} {l : List t.El} {b base cap : Nat} (hcap : l.length ≤ cap) (hel : ∀ k, k < l.length → ∃ ds, ds.length = t.cells ∧ At m.w b (base + k * t.cells) ds ∧ CR m false t ds (l.getD k t.dflt))
    (hwr : ∀ j, j < cap * t.cells → (∃ v, m.w.cell? ⟨b, base + j, none⟩ = some v) ∧ m.w.frozen? ⟨b, base + j, none⟩ = false) {news : List t.El} {cN : List (List Value)} (n1 : cN.length = news.length)
    (n2 : ∀ i, i < news.length → (cN.getD i []).length = t.cells ∧ CR m false t (cN.getD i []) (news.getD i t.dflt)) {p : Nat} (hp : p ≤ l.length) (hpn : p + news.length ≤ cap) :
    (∀ k, k < (l.take p ++ news ++ l.drop (p + news.length)).length → ∃ ds, ds.length = t.cells ∧ At (m.w.setCells b (base + p * t.cells) cN.flatten) b (base + k * t.cells) ds ∧ CR m false t ds ((l.take p ++ news ++ l.drop (p + news.length)).getD k t.dflt)) ∧
    (∀ j, j < cap * t.cells → (∃ v, (m.w.setCells b (base + p * t.cells) cN.flatten).cell? ⟨b, base + j, none⟩ = some v) ∧ (m.w.setCells b (base + p * t.cells) cN.flatten).frozen? ⟨b, base + j, none⟩ = false) := by
  have lN : cN.flatten.length = news.length * t.cells := by rw [flatten_len (k := t.cells) (fun j hj => (n2 j (by omega)).1), n1]
  have hsome : ∀ j, j < cN.flatten.length → (m.w.cell? ⟨b, base + p * t.cells + j, none⟩).isSome = true := fun j hj => by
    have h1 : p * t.cells + j < cap * t.cells := by
      have : (p + news.length) * t.cells ≤ cap * t.cells := Nat.mul_le_mul_right _ hpn
      rw [Nat.add_mul] at this; omega
    obtain ⟨⟨v, hv⟩, _⟩ := hwr _ h1
    rw [← Nat.add_assoc] at hv; rw [hv]; rfl
  have hin := World.cell?_setCells_in b cN.flatten (base + p * t.cells) m.w hsome
  refine ⟨fun k hk => ?_, fun j hj => ⟨?_, by rw [World.frozen?_setCells]; exact (hwr j hj).2⟩⟩
  · simp only [List.length_append, List.length_take, List.length_drop] at hk
    have out : ∀ (k' : Nat) (ds : List Value), ds.length = t.cells → (k' < p ∨ p + news.length ≤ k') → At m.w b (base + k' * t.cells) ds → At (m.w.setCells b (base + p * t.cells) cN.flatten) b (base + k' * t.cells) ds := fun k' ds hd hk' hat j v hj => by
      have hjl : j < t.cells := by
        rw [← hd]
        rcases Nat.lt_or_ge j ds.length with h | h
        · exact h
        · rw [List.getElem?_eq_none h] at hj; cases hj
      rw [World.cell?_setCells_out _ _ _ _ _ (fun _ _ => by
        simp only
        rw [lN]
        rcases hk' with h | h
        · left
          have : (k' + 1) * t.cells ≤ p * t.cells := Nat.mul_le_mul_right _ (by omega)
          rw [Nat.add_mul] at this; omega
        · right
          have : (p + news.length) * t.cells ≤ k' * t.cells := Nat.mul_le_mul_right _ h
          rw [Nat.add_mul] at this; omega)]
      exact hat j v hj
    rw [List.append_assoc, getD_app, List.length_take, Nat.min_eq_left hp]
    by_cases hkp : k < p
    · rw [if_pos hkp]
      obtain ⟨ds, d1, d2, d3⟩ := hel k (by omega)
      refine ⟨ds, d1, out k ds d1 (.inl hkp) d2, ?_⟩
      have : (l.take p).getD k t.dflt = l.getD k t.dflt := by simp only [List.getD_eq_getElem?_getD]; rw [List.getElem?_take_of_lt hkp]
      rw [this]; exact d3
    · rw [if_neg hkp, getD_app]
      by_cases hkn : k - p < news.length
      · rw [if_pos hkn]
        obtain ⟨g1, g2⟩ := n2 _ hkn
        refine ⟨cN.getD (k - p) [], g1, ?_, g2⟩
        have hat : At (m.w.setCells b (base + p * t.cells) cN.flatten) b (base + p * t.cells) cN.flatten := fun j v hj => by
          have hjl : j < cN.flatten.length := by
            rcases Nat.lt_or_ge j cN.flatten.length with h | h
            · exact h
            · rw [List.getElem?_eq_none h] at hj; cases hj
          rw [hin j hjl]
          rw [List.getElem?_eq_getElem hjl] at hj; exact hj
        have := getD_flat hat (i := k - p) (k := t.cells) (by omega) (fun j hj => (n2 j (by omega)).1)
        rw [show base + k * t.cells = base + p * t.cells + (k - p) * t.cells by rw [Nat.add_assoc, ← Nat.add_mul]; congr 2; omega]
        exact this
      · rw [if_neg hkn]
        obtain ⟨ds, d1, d2, d3⟩ := hel k (by omega)
        refine ⟨ds, d1, out k ds d1 (.inr (by omega)) d2, ?_⟩
        have : (l.drop (p + news.length)).getD (k - p - news.length) t.dflt = l.getD k t.dflt := by
          simp only [List.getD_eq_getElem?_getD]; rw [List.getElem?_drop]; congr 2; omega
        rw [this]; exact d3
  · by_cases h1 : p * t.cells ≤ j ∧ j < p * t.cells + cN.flatten.length
    · have := hin (j - p * t.cells) (by omega)
      rw [show base + p * t.cells + (j - p * t.cells) = base + j by omega] at this
      exact ⟨_, this⟩
    · rw [World.cell?_setCells_out _ _ _ _ _ (fun _ _ => by simp only; omega)]
      exact (hwr j hj).1

section
variable {P : Program} {cx : Ctx} {o : Oper} {env : List V} {H : List Obj} {id : Nat} {K : Eff → Prop}

theorem mem_flat_oneCell {m : M} {t : Ty} (hm : t.mem = true) {news : List t.El} {cN : List (List Value)} (n1 : cN.length = news.length)
    (n2 : ∀ i, i < news.length → (cN.getD i []).length = t.cells ∧ CR m false t (cN.getD i []) (news.getD i t.dflt)) : ∀ v ∈ cN.flatten, v.oneCell' = true := by
  intro v hv
  obtain ⟨cs, h1, h2⟩ := List.mem_flatten.1 hv
  obtain ⟨j, hj, rfl⟩ := List.mem_iff_getElem.1 h1
  have := n2 j (by omega)
  rw [show cN.getD j [] = cN[j] by simp [hj]] at this
  exact mem_oneCell this.2 hm v h2

/-- The new one in a row's block. -/
theorem append_place {m : M} (hs : StR m) {ts tx ty e i len c off : Nat} {a : Option Addr} {vx : Value} {d : TypeDesc} {t : Ty} {l : List t.El} (hm : t.mem = true) (hz : ∀ w, (sizeOf e).run P w = .ok t.cells w)
    (hu : P.underlying ts = some (.slice e)) (hux : P.underlying tx = some d) (hni : ∀ k, d ≠ .int k) (hv : View m i t l a len c off)
    {news : List t.El} {cN : List (List Value)} (n1 : cN.length = news.length) (n2 : ∀ i, i < news.length → (cN.getD i []).length = t.cells ∧ CR m false t (cN.getD i []) (news.getD i t.dflt))
    (hl : ∀ w, (Go.Builtin.lenOf vx).run P w = .ok news.length w) (hf : (Go.Builtin.firstCells t.cells news.length vx).run P m.w = .ok cN.flatten.toArray m.w)
    (hc : len + news.length ≤ c) (hc0 : c ≠ 0) (rest : List TypeId) :
    ∃ b base cap, m.ρ i = some (b, base, cap) ∧ a = some ⟨b, base + off * t.cells, none⟩ ∧ off + c ≤ cap ∧ b < m.w.heap.size ∧ ¬ m.S b ∧ l.length ≤ LIM ∧ l.length ≤ cap ∧
      (Go.Builtin.append_ (ts :: tx :: rest).toArray ty #[.slice a len c, vx]).run P m.w = .ok (.slice a (len + news.length) c) (m.w.setCells b (base + (off + len) * t.cells) cN.flatten) ∧
      (∀ k, k < (l.take (off + len) ++ news ++ l.drop (off + len + news.length)).length → ∃ ds, ds.length = t.cells ∧ At (m.w.setCells b (base + (off + len) * t.cells) cN.flatten) b (base + k * t.cells) ds ∧ CR m false t ds ((l.take (off + len) ++ news ++ l.drop (off + len + news.length)).getD k t.dflt)) ∧
      (∀ j, j < cap * t.cells → (∃ v, (m.w.setCells b (base + (off + len) * t.cells) cN.flatten).cell? ⟨b, base + j, none⟩ = some v) ∧ (m.w.setCells b (base + (off + len) * t.cells) cN.flatten).frozen? ⟨b, base + j, none⟩ = false) := by
  obtain ⟨b, base, cap, e1, e2, e3⟩ := hv.at_.resolve_left hc0
  subst e2
  have hok := hs.ok i hv.hi
  rw [hv.ob] at hok
  simp only [OR] at hok
  have hle := hv.le
  rcases hok with ⟨_, h'⟩ | ⟨b', base', cap', r1, r2, r3, r3', r4, r5⟩
  · rw [e1] at h'; cases h'
  · rw [e1] at r1; simp only [Option.some.injEq, Prod.mk.injEq] at r1
    obtain ⟨rfl, rfl, rfl⟩ := r1
    obtain ⟨hS, hwr⟩ := r5
    obtain ⟨p1, p2⟩ := place_row r3 r4 hwr n1 n2 (p := off + len) hle (by omega)
    have lN : cN.flatten.length = news.length * t.cells := by rw [flatten_len (k := t.cells) (fun j hj => (n2 j (by omega)).1), n1]
    have hpos : ∀ j, j < cN.flatten.length → (off + len) * t.cells + j < cap * t.cells := fun j hj => by
      have : (off + len + news.length) * t.cells ≤ cap * t.cells := Nat.mul_le_mul_right _ (by omega)
      rw [Nat.add_mul (off + len)] at this; omega
    have hoff : base + off * t.cells + len * t.cells = base + (off + len) * t.cells := by rw [Nat.add_mul]; omega
    refine ⟨b, base, cap, e1, rfl, e3, r2, hS, r3', r3, ?_, p1, p2⟩
    have := run_append_place (P := P) (ty := ty) (w := m.w) (b := b) (off := base + off * t.cells) hu hux hni hz hl hf hc (mem_flat_oneCell hm n1 n2) (fun j hj => by
      obtain ⟨⟨v, hv⟩, _⟩ := hwr _ (hpos j hj)
      rw [hoff, Nat.add_assoc, hv]; rfl) (fun j hj => by rw [hoff, Nat.add_assoc]; exact (hwr _ (hpos j hj)).2) rest
    rw [this, hoff]

end
end Go.Abs
