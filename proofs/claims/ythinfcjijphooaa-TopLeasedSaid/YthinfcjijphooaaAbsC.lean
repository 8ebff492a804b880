/- Values told deeply. -/
import Derived.Test.YthinfcjijphooaaAbsB
namespace Go.Abs
set_option linter.unusedVariables false
set_option linter.unusedSimpArgs false
open Go

theorem getD_some {H : List Obj} {i : Nat} {o : Obj} (h : H[i]? = some o) : H.getD i .none = o := by simp [List.getD, h]

/-- The same object, frozen or not. -/
def Sim (a b : Obj) : Prop := a = b ∨ a = frz b
theorem Sim.row {a b : Obj} {t : Ty} {l : List t.El} {fz : Bool} (h : Sim a b) (hb : b = .row t l fz) : ∃ fz', a = .row t l fz' := by
  rcases h with h | h <;> subst hb <;> exact ⟨_, h⟩
theorem Sim.getO {a b : Obj} {path : List Stp} {w : V} (h : Sim a b) (hb : getO b path = some w) : getO a path = some w := by
  rcases h with h | h
  · rw [h]; exact hb
  · subst h
    cases b with
    | none => exact hb
    | free => exact hb
    | box _ _ => exact hb
    | row t l fz => cases path with
      | nil => exact hb
      | cons s r => cases s <;> exact hb

theorem dv_base {m m' : M} (hS : ∀ b, m.S b → m'.S b) (hw : m'.w = m.w) {b : Bool} {t : Ty} {cs : List Value} {x : t.El} {u : V} {z : List Nat} (h : CR m b t cs x)
    (hd : dvB t x = some (u, z)) : CR m' b u.t cs u.x ∧ u.t.isAgg = t.isAgg ∧ u.t.deep = true ∧ u.t.cells = t.cells := by
  unfold dvB at hd
  split at hd
  · rename_i hdp
    simp only [Option.some.injEq, Prod.mk.injEq] at hd
    obtain ⟨rfl, rfl⟩ := hd
    exact ⟨CR.deep hS (fun b o v _ hv => by rw [hw]; exact hv) hdp h, rfl, hdp, rfl⟩
  · cases hd

theorem dv_CR {m m' : M} (hs : StR m) (hS : ∀ b, m.S b → m'.S b) (hw : m'.w = m.w) {H : List Obj} : ∀ {b : Bool} {t : Ty} {cs : List Value} {x : t.El} {u : V} {z : List Nat}, CR m b t cs x → dv H t x = some (u, z) →
    (∀ i ∈ z, Sim (m.H.getD i .none) (H.getD i .none)) → (∀ i ∈ z, ∀ b base cap, m.ρ i = some (b, base, cap) → (m.H.getD i .none).live → m'.S b) →
    CR m' b u.t cs u.x ∧ u.t.isAgg = t.isAgg ∧ u.t.deep = true ∧ u.t.cells = t.cells := by
  intro b t
  have cell' : ∀ b o v, m.S b → m.w.cell? ⟨b, o, none⟩ = some v → m'.w.cell? ⟨b, o, none⟩ = some v := fun b o v _ hv => by rw [hw]; exact hv
  have deepCR : ∀ {b : Bool} {t : Ty} {cs : List Value} {x : t.El}, t.deep = true → CR m b t cs x → CR m' b t cs x := fun hd h => CR.deep hS cell' hd h
  induction t generalizing b with
  | rf t _ =>
    intro cs x u z h hd hrd hF
    cases b
    case true => simp [CR] at h
    simp only [dv] at hd
    split at hd
    · rename_i t' l fz hob
      have hob := getD_some hob
      split at hd
      · rename_i hdt
        simp only [Bool.and_eq_true, decide_eq_true_eq] at hdt
        obtain ⟨hdeep, rfl⟩ := hdt
        simp only [CR] at h
        obtain ⟨a, n, c, rfl, h1, h2, h3, h4⟩ := h
        have elems : ∀ fz', m.H.getD x.1 .none = .row t' l fz' → (∀ b base cap, m.ρ x.1 = some (b, base, cap) → m'.S b) → ∀ off, off + n ≤ l.length → (c = 0 ∨ ∃ b base cap, m.ρ x.1 = some (b, base, cap) ∧ a = some ⟨b, base + off * t'.cells, none⟩) →
            ∀ i, i < n → ∃ b o ds, a = some ⟨b, o, none⟩ ∧ m'.S b ∧ ds.length = t'.cells ∧ At m'.w b (o + i * t'.cells) ds ∧ CR m' false t' ds (l.getD (off + i) t'.dflt) := by
          intro fz' hrow hFb off q1 q2 i hi
          rcases q2 with q2 | ⟨b, base, cap, q2, q3⟩
          · omega
          have hor := hs.ok x.1 h3
          rw [hrow] at hor
          simp only [OR] at hor
          rcases hor with ⟨_, hor⟩ | ⟨b', base', cap', r1, _, _, _, r2, _⟩
          · rw [hor] at q2; cases q2
          rw [q2] at r1; simp only [Option.some.injEq, Prod.mk.injEq] at r1; obtain ⟨rfl, rfl, rfl⟩ := r1
          obtain ⟨ds, d1, d2, d3⟩ := r2 (off + i) (by omega)
          exact ⟨b, base + off * t'.cells, ds, q3, hFb _ _ _ q2, d1, by rw [hw, Nat.add_assoc, ← Nat.add_mul]; exact d2, deepCR hdeep d3⟩
        split at hd
        · rename_i hx2
          simp only [Option.some.injEq, Prod.mk.injEq] at hd
          obtain ⟨rfl, rfl⟩ := hd
          obtain ⟨fz', hrow⟩ := (hrd x.1 (by simp)).row hob
          rw [hrow, hx2] at h4
          obtain ⟨_, rfl, h5⟩ := h4
          refine ⟨?_, rfl, by simpa [Ty.deep] using hdeep, rfl⟩
          simp only [CR]
          exact ⟨a, _, c, rfl, rfl, h1, h2, fun i hi => by
            have := elems fz' hrow (fun b base cap hb => hF x.1 (by simp) b base cap hb (by rw [hrow]; trivial)) 0 (by omega) (h5.imp (fun h => h) (fun ⟨b, base, cap, q1, q2, _⟩ => ⟨b, base, cap, q1, by simpa using q2⟩)) i hi
            simpa using this⟩
        · rename_i off len hx2
          simp only [Option.some.injEq, Prod.mk.injEq] at hd
          obtain ⟨rfl, rfl⟩ := hd
          obtain ⟨fz', hrow⟩ := (hrd x.1 (by simp)).row hob
          rw [hrow, hx2] at h4
          obtain ⟨_, rfl, h5, h6, h7⟩ := h4
          refine ⟨?_, rfl, by simpa [Ty.deep] using hdeep, rfl⟩
          simp only [CR]
          have hlen : ((l.drop off).take n).length = n := by simp only [List.length_take, List.length_drop]; omega
          refine ⟨a, n, c, rfl, hlen.symm, h1, h2, fun i hi => ?_⟩
          obtain ⟨b, o, ds, e1, e2, e3, e4, e5⟩ := elems fz' hrow (fun b base cap hb => hF x.1 (by simp) b base cap hb (by rw [hrow]; trivial)) off (by omega) (h7.imp (fun h => h) (fun ⟨b, base, cap, q1, q2, _⟩ => ⟨b, base, cap, q1, q2⟩)) i hi
          refine ⟨b, o, ds, e1, e2, e3, e4, ?_⟩
          rw [show List.getD ((l.drop off).take n) i t'.dflt = l.getD (off + i) t'.dflt from by
            simp only [List.getD_eq_getElem?_getD]
            rw [List.getElem?_take_of_lt hi, List.getElem?_drop]]
          exact e5
      · cases hd
    · cases hd
  | pt =>
    intro cs x u z h hd hrd hF
    cases b
    case true => simp [CR] at h
    simp only [CR] at h
    obtain ⟨b, o, rfl, h1, h2⟩ := h
    have fin : ∀ (path : List Stp) (w : V), x.2 = path → getO (H.getD x.1 .none) path = some w → w.t.deep = true → z = [x.1] → u = ⟨.ip w.t, w.x⟩ →
        CR m' false u.t [.pointer (some ⟨b, o, none⟩)] u.x ∧ u.t.isAgg = Ty.pt.isAgg ∧ u.t.deep = true ∧ u.t.cells = Ty.pt.cells := by
      intro path w hp hg hdw hz hu
      subst hz; subst hu
      have hg := (hrd x.1 (by simp)).getO hg
      rcases h2 with h2 | ⟨hok, base, cap, hρ, rfl⟩
      · rw [h2] at hg; simp [getO] at hg
      rw [hp] at hok ⊢
      obtain ⟨c, c1, c2, c3⟩ := getO_at hs h1 hok hρ hg
      refine ⟨?_, rfl, by simpa [Ty.deep] using hdw, rfl⟩
      simp only [CR]
      refine ⟨b, base + pathOff path, c, rfl, hF x.1 (by simp) b base cap hρ ?_, c2, by rw [hw]; exact c1, deepCR hdw c3⟩
      generalize m.H.getD x.1 .none = ob at *
      cases ob with
      | none => simp [getO] at hg
      | free => simp [getO] at hg
      | box _ _ => trivial
      | row _ _ _ => trivial
    simp only [dv] at hd
    split at hd
    · rename_i v fz hob
      have hob := getD_some hob
      split at hd
      · rename_i w hw0
        split at hd
        · rename_i hdw
          simp only [Option.some.injEq, Prod.mk.injEq] at hd
          exact fin x.2 w rfl (by rw [hob]; exact hw0) hdw hd.2.symm hd.1.symm
        · cases hd
      · cases hd
    · rename_i t l fz hob
      have hob := getD_some hob
      split at hd
      · rename_i hx2
        split at hd
        · rename_i hdt
          simp only [Option.some.injEq, Prod.mk.injEq] at hd
          obtain ⟨rfl, rfl⟩ := hd
          obtain ⟨fz', hrow⟩ := (hrd x.1 (by simp)).row hob
          rcases h2 with h2 | ⟨hok, base, cap, hρ, rfl⟩
          · rw [hrow] at h2; cases h2
          have hor := hs.ok x.1 h1
          rw [hrow] at hor
          simp only [OR] at hor
          rcases hor with ⟨_, hor⟩ | ⟨b', base', cap', r1, _, _, _, r2, _⟩
          · rw [hor] at hρ; cases hρ
          rw [hρ] at r1; simp only [Option.some.injEq, Prod.mk.injEq] at r1; obtain ⟨rfl, rfl, rfl⟩ := r1
          obtain ⟨css, c1, c2, c3⟩ := row_cells l 0 (fun i hi => by simpa using r2 i hi)
          refine ⟨?_, rfl, by simpa [Ty.deep] using hdt, rfl⟩
          simp only [CR]
          refine ⟨b, base + pathOff x.2, css.flatten, rfl, hF x.1 (by simp) b base cap hρ (by rw [hrow]; trivial), ?_, ?_, trivial, css, rfl, c1, fun j hj => ⟨(c3 j hj).1, deepCR hdt (c3 j hj).2⟩⟩
          · rw [flatten_len (k := t.cells) (fun j hj => (c3 j (by omega)).1), c1]; simp [Ty.cells]
          · rw [hw, hx2]; simpa [pathOff] using c2
        · cases hd
      · rename_i sz i r hx2
        split at hd
        · rename_i hsz
          split at hd
          · rename_i w hw0
            split at hd
            · rename_i hdw
              simp only [Option.some.injEq, Prod.mk.injEq] at hd
              exact fin (.idx sz i :: r) w hx2 (by rw [hob]; simp only [getO, hsz]; exact hw0) hdw hd.2.symm hd.1.symm
            · cases hd
          · cases hd
        · cases hd
      · cases hd
    · cases hd
  | pair a c iha ihc =>
    intro cs x u z h hd hrd hF
    simp only [dv] at hd
    split at hd
    · rename_i u1 p u2 q e1 e2
      simp only [Option.some.injEq, Prod.mk.injEq] at hd
      obtain ⟨rfl, rfl⟩ := hd
      have hrd1 : ∀ i ∈ p, _ := fun i hi => hrd i (by simp [hi])
      have hrd2 : ∀ i ∈ q, _ := fun i hi => hrd i (by simp [hi])
      have hF1 : ∀ i ∈ p, _ := fun i hi => hF i (by simp [hi])
      have hF2 : ∀ i ∈ q, _ := fun i hi => hF i (by simp [hi])
      cases b
      · simp only [CR] at h ⊢
        obtain ⟨c1, c2, rfl, h1, h2, h3⟩ := h
        obtain ⟨g1, g2, g3, g4⟩ := iha h2 e1 hrd1 hF1
        obtain ⟨k1, k2, k3, k4⟩ := ihc h3 e2 hrd2 hF2
        exact ⟨⟨c1, c2, rfl, by rw [g4]; exact h1, g1, k1⟩, rfl, by simp [Ty.deep, g3, k3], by simp [Ty.cells, g4, k4]⟩
      · simp only [CR] at h ⊢
        obtain ⟨v, r, rfl, h2, h3⟩ := h
        obtain ⟨k1, k2, k3, k4⟩ := ihc h3 e2 hrd2 hF2
        cases ha : a.isAgg <;> simp only [ha] at h2
        · obtain ⟨g1, g2, g3, g4⟩ := iha h2 e1 hrd1 hF1
          exact ⟨⟨v, r, rfl, by rw [g2, ha]; exact g1, k1⟩, rfl, by simp [Ty.deep, g3, k3], by simp [Ty.cells, g4, k4]⟩
        · obtain ⟨cs, e, h2⟩ := h2
          obtain ⟨g1, g2, g3, g4⟩ := iha h2 e1 hrd1 hF1
          exact ⟨⟨v, r, rfl, by rw [g2, ha]; exact ⟨cs, e, g1⟩, k1⟩, rfl, by simp [Ty.deep, g3, k3], by simp [Ty.cells, g4, k4]⟩
    · cases hd
  | fn f c ih =>
    intro cs x u z h hd hrd hF
    cases b
    case true => simp [CR] at h
    simp only [dv] at hd
    split at hd
    · rename_i u1 p e1
      simp only [Option.some.injEq, Prod.mk.injEq] at hd
      obtain ⟨rfl, rfl⟩ := hd
      simp only [CR] at h ⊢
      obtain ⟨vs, rfl, h⟩ := h
      obtain ⟨g1, g2, g3, g4⟩ := ih h e1 hrd hF
      exact ⟨⟨vs, rfl, g1⟩, rfl, by simpa [Ty.deep] using g3, rfl⟩
    · cases hd
  | tup c ih =>
    intro cs x u z h hd hrd hF
    cases b
    case true => simp [CR] at h
    simp only [dv] at hd
    split at hd
    · rename_i u1 p e1
      simp only [Option.some.injEq, Prod.mk.injEq] at hd
      obtain ⟨rfl, rfl⟩ := hd
      simp only [CR] at h ⊢
      obtain ⟨vs, rfl, h⟩ := h
      obtain ⟨g1, g2, g3, g4⟩ := ih h e1 hrd hF
      exact ⟨⟨vs, rfl, g1⟩, rfl, by simpa [Ty.deep] using g3, rfl⟩
    · cases hd
  | unit | int _ | bool | str | sl _ _ | arr _ _ _ | ip _ _ | nilS | nilP | nilF | nilM | undef =>
    intro cs x u z h hd hrd hF
    exact dv_base hS hw h (by simpa only [dv] using hd)

theorem co_CR {m : M} : ∀ {b : Bool} {s t : Ty} {cs : List Value} {x : s.El} {y : t.El}, CR m b s cs x → co s x t = some y → CR m b t cs y ∧ t.isAgg = s.isAgg ∧ t.cells = s.cells := by
  have base : ∀ {b : Bool} {s t : Ty} {cs : List Value} {x : s.El} {y : t.El}, CR m b s cs x → coB s x t = some y → CR m b t cs y ∧ t.isAgg = s.isAgg ∧ t.cells = s.cells := by
    intro b s t cs x y h hc
    unfold coB at hc
    split at hc
    · rename_i e; subst e; simp only [Option.some.injEq] at hc; subst hc; exact ⟨h, rfl, rfl⟩
    · cases hc
  intro b s
  induction s generalizing b with
  | nilS =>
    intro t cs x y h hc
    cases t
    case sl t =>
      have hc : some ([] : List t.El) = some y := hc
      have hc := Option.some.inj hc; subst hc
      cases b
      · simp only [CR] at h ⊢; subst h
        exact ⟨⟨none, 0, 0, rfl, rfl, Nat.le_refl _, by simp, fun i hi => by omega⟩, rfl, rfl⟩
      · simp [CR] at h
    all_goals exact base h hc
  | pair a c iha ihc =>
    intro t cs x y h hc
    cases t
    case pair a' c' =>
      obtain ⟨e1, e2⟩ := pairO_some (A := a'.El) (B := c'.El) hc
      cases b
      · simp only [CR] at h ⊢
        obtain ⟨c1, c2, rfl, h1, h2, h3⟩ := h
        obtain ⟨g1, g2, g3⟩ := iha h2 e1
        obtain ⟨k1, k2, k3⟩ := ihc h3 e2
        exact ⟨⟨c1, c2, rfl, by rw [g3]; exact h1, g1, k1⟩, rfl, by simp [Ty.cells, g3, k3]⟩
      · simp only [CR] at h ⊢
        obtain ⟨v, r, rfl, h2, h3⟩ := h
        obtain ⟨k1, k2, k3⟩ := ihc h3 e2
        cases ha : a.isAgg <;> simp only [ha] at h2
        · obtain ⟨g1, g2, g3⟩ := iha h2 e1
          exact ⟨⟨v, r, rfl, by rw [g2, ha]; exact g1, k1⟩, rfl, by simp [Ty.cells, g3, k3]⟩
        · obtain ⟨cs, e, h2⟩ := h2
          obtain ⟨g1, g2, g3⟩ := iha h2 e1
          exact ⟨⟨v, r, rfl, by rw [g2, ha]; exact ⟨cs, e, g1⟩, k1⟩, rfl, by simp [Ty.cells, g3, k3]⟩
    all_goals exact base h hc
  | tup a ih =>
    intro t cs x y h hc
    cases t
    case tup c =>
      have hc : co a x c = some y := hc
      cases b
      · simp only [CR] at h ⊢
        obtain ⟨vs, rfl, h⟩ := h
        exact ⟨⟨vs, rfl, (ih h hc).1⟩, rfl, rfl⟩
      · simp [CR] at h
    all_goals exact base h hc
  | unit | int _ | bool | str | sl _ _ | arr _ _ _ | ip _ _ | rf _ _ | pt | nilP | nilF | nilM | fn _ _ _ | undef =>
    intro t cs x y h hc
    exact base h hc

theorem VR_agg {m m' : M} {v : Value} {u u' : V} (ha : u'.t.isAgg = u.t.isAgg) (hc : ∀ cs, CR m false u.t cs u.x → CR m' false u'.t cs u'.x) (h : VR m v u) : VR m' v u' := by
  unfold VR at *
  rw [ha]
  cases hu : u.t.isAgg <;> simp only [hu] at h ⊢
  · exact hc _ h
  · obtain ⟨cs, e, h⟩ := h; exact ⟨cs, e, hc _ h⟩

theorem dv_VR {m m' : M} (hs : StR m) (hS : ∀ b, m.S b → m'.S b) (hw : m'.w = m.w) {H : List Obj} {v : Value} {x u : V} {z : List Nat} (h : VR m v x) (hd : dv H x.t x.x = some (u, z))
    (hrd : ∀ i ∈ z, Sim (m.H.getD i .none) (H.getD i .none)) (hF : ∀ i ∈ z, ∀ b base cap, m.ρ i = some (b, base, cap) → (m.H.getD i .none).live → m'.S b) : VR m' v u ∧ u.t.deep = true := by
  by_cases ht : ∃ cs, CR m false x.t cs x.x
  · obtain ⟨cs, hcs⟩ := ht
    obtain ⟨_, g2, g3, _⟩ := dv_CR hs hS hw hcs hd hrd hF
    exact ⟨VR_agg g2 (fun cs hc => (dv_CR hs hS hw hc hd hrd hF).1) h, g3⟩
  · exfalso; apply ht
    unfold VR at h
    split at h
    · obtain ⟨cs, _, h⟩ := h; exact ⟨_, h⟩
    · exact ⟨_, h⟩

theorem deepAs_VR {m m' : M} (hs : StR m) (hS : ∀ b, m.S b → m'.S b) (hw : m'.w = m.w) {H : List Obj} {v : Value} {x : V} {t : Ty} {y : t.El} {z : List Nat} (h : VR m v x) (hd : deepAs H x t = some (y, z))
    (hrd : ∀ i ∈ z, Sim (m.H.getD i .none) (H.getD i .none)) (hF : ∀ i ∈ z, ∀ b base cap, m.ρ i = some (b, base, cap) → (m.H.getD i .none).live → m'.S b) : VR m' v ⟨t, y⟩ := by
  unfold deepAs at hd
  split at hd
  · rename_i u p e1
    split at hd
    · rename_i y' e2
      simp only [Option.some.injEq, Prod.mk.injEq] at hd
      obtain ⟨rfl, rfl⟩ := hd
      obtain ⟨g1, g2⟩ := dv_VR hs hS hw h e1 hrd hF
      have : ∃ cs, CR m' false u.t cs u.x := by
        unfold VR at g1
        split at g1
        · obtain ⟨cs, _, h⟩ := g1; exact ⟨_, h⟩
        · exact ⟨_, g1⟩
      obtain ⟨cs, hcs⟩ := this
      exact VR_agg (co_CR hcs e2).2.1 (fun cs hc => (co_CR hc e2).1) g1
    · cases hd
  · cases hd

end Go.Abs
