/- How the state goes on: the world grows, an object is laid, written, frozen, forgotten. -/
import Derived.Test.YthinfcjijphooaaAbsA
namespace Go.Abs
set_option linter.unusedVariables false
set_option linter.unusedSimpArgs false
open Go

def Grows (w w' : World) : Prop := w.heap.size ≤ w'.heap.size ∧ (∀ b, b < w.heap.size → w'.heap[b]? = w.heap[b]?) ∧ w'.os = w.os ∧ w'.output = w.output ∧ w'.tape = w.tape

theorem Grows.refl (w : World) : Grows w w := ⟨Nat.le_refl _, fun _ _ => rfl, rfl, rfl, rfl⟩
theorem Grows.trans {a b c : World} (h : Grows a b) (g : Grows b c) : Grows a c :=
  ⟨Nat.le_trans h.1 g.1, fun i hi => (g.2.1 i (Nat.lt_of_lt_of_le hi h.1)).trans (h.2.1 i hi), g.2.2.1.trans h.2.2.1, g.2.2.2.1.trans h.2.2.2.1, g.2.2.2.2.trans h.2.2.2.2⟩
theorem Grows.cell {w w' : World} (h : Grows w w') {b o : Nat} (hb : b < w.heap.size) : w'.cell? ⟨b, o, none⟩ = w.cell? ⟨b, o, none⟩ := by
  simp only [World.cell?, h.2.1 b hb]
theorem Grows.frozen {w w' : World} (h : Grows w w') {b o : Nat} (hb : b < w.heap.size) : w'.frozen? ⟨b, o, none⟩ = w.frozen? ⟨b, o, none⟩ := by
  simp only [World.frozen?, h.2.1 b hb]
theorem Grows.of_heap {w w' : World} (h : w'.heap = w.heap) (h1 : w'.os = w.os) (h2 : w'.output = w.output) (h3 : w'.tape = w.tape) : Grows w w' := ⟨by rw [h]; exact Nat.le_refl _, fun b _ => by rw [h], h1, h2, h3⟩
theorem Grows.alloc (w : World) (o : Go.Obj) : Grows w (w.alloc o) := ⟨by simp, fun b hb => by show (w.heap.push o)[b]? = _; rw [Array.getElem?_push]; simp [Nat.ne_of_lt hb], rfl, rfl, rfl⟩

theorem kept_setCells : ∀ (cs : List Value) (w : World) (b o : Nat), ((w.setCells b o cs).os = w.os ∧ (w.setCells b o cs).output = w.output ∧ (w.setCells b o cs).tape = w.tape) ∧ ∀ b', b' ≠ b → (w.setCells b o cs).heap[b']? = w.heap[b']?
  | [], w, b, o => ⟨⟨rfl, rfl, rfl⟩, fun _ _ => rfl⟩
  | c :: cs, w, b, o => by
    obtain ⟨⟨h1, h2, h4⟩, h3⟩ := kept_setCells cs (w.setCell ⟨b, o, none⟩ c) b (o + 1)
    refine ⟨⟨h1, h2, h4⟩, fun b' hb => (h3 b' hb).trans ?_⟩
    simp only [World.setCell, Array.getElem?_modify]
    rw [if_neg (fun h => hb h.symm)]

theorem cell_lt {w : World} {b o : Nat} {v : Value} (h : w.cell? ⟨b, o, none⟩ = some v) : b < w.heap.size := World.block_lt_of_cell? w ⟨b, o, none⟩ h

/-- Of values that lead to no owned memory the objects tell nothing. -/
theorem CR.deep {m m' : M} (hS : ∀ b, m.S b → m'.S b) (hc : ∀ b o v, m.S b → m.w.cell? ⟨b, o, none⟩ = some v → m'.w.cell? ⟨b, o, none⟩ = some v) :
    ∀ {b : Bool} {t : Ty} {cs : List Value} {x : t.El}, t.deep = true → CR m b t cs x → CR m' b t cs x
  | false, .unit, cs, x, _, h => by simpa only [CR] using h
  | false, .int _, cs, x, _, h => by simpa only [CR] using h
  | false, .bool, cs, x, _, h => by simpa only [CR] using h
  | false, .str, cs, x, _, h => by simpa only [CR] using h
  | false, .sl t, cs, x, d, h => by
    simp only [Ty.deep] at d
    simp only [CR] at h ⊢
    obtain ⟨a, n, c, rfl, h1, h2, h3, h4⟩ := h
    refine ⟨a, n, c, rfl, h1, h2, h3, fun i hi => ?_⟩
    obtain ⟨b, o, ds, e, hs, hl, hat, hr⟩ := h4 i hi
    exact ⟨b, o, ds, e, hS _ hs, hl, fun j v hj => hc _ _ _ hs (hat j v hj), CR.deep hS hc d hr⟩
  | false, .arr n t, cs, x, d, h => by
    simp only [Ty.deep] at d
    simp only [CR] at h ⊢
    obtain ⟨h0, css, h1, h2, h3⟩ := h
    exact ⟨h0, css, h1, h2, fun i hi => ⟨(h3 i hi).1, CR.deep hS hc d (h3 i hi).2⟩⟩
  | false, .pair a b, cs, x, d, h => by
    simp only [Ty.deep, Bool.and_eq_true] at d
    simp only [CR] at h ⊢
    obtain ⟨c1, c2, h1, h2, h3, h4⟩ := h
    exact ⟨c1, c2, h1, h2, CR.deep hS hc d.1 h3, CR.deep hS hc d.2 h4⟩
  | false, .ip t, cs, x, d, h => by
    simp only [Ty.deep] at d
    simp only [CR] at h ⊢
    obtain ⟨b, o, ds, rfl, hs, hl, hat, hr⟩ := h
    exact ⟨b, o, ds, rfl, hS _ hs, hl, fun j v hj => hc _ _ _ hs (hat j v hj), CR.deep hS hc d hr⟩
  | false, .rf t, cs, x, d, h => by simp [Ty.deep] at d
  | false, .pt, cs, x, d, h => by simp [Ty.deep] at d
  | false, .nilS, cs, x, _, h => by simpa only [CR] using h
  | false, .nilP, cs, x, _, h => by simpa only [CR] using h
  | false, .nilF, cs, x, _, h => by simpa only [CR] using h
  | false, .nilM, cs, x, _, h => by simpa only [CR] using h
  | false, .fn f c, cs, x, d, h => by
    simp only [Ty.deep] at d
    simp only [CR] at h ⊢
    obtain ⟨vs, e, h⟩ := h
    exact ⟨vs, e, CR.deep hS hc d h⟩
  | false, .tup c, cs, x, d, h => by
    simp only [Ty.deep] at d
    simp only [CR] at h ⊢
    obtain ⟨vs, e, h⟩ := h
    exact ⟨vs, e, CR.deep hS hc d h⟩
  | false, .undef, cs, x, d, h => by simp [Ty.deep] at d
  | true, .unit, vs, x, _, h => by simpa only [CR] using h
  | true, .pair a b, vs, x, d, h => by
    simp only [Ty.deep, Bool.and_eq_true] at d
    simp only [CR] at h ⊢
    obtain ⟨v, r, e, h1, h2⟩ := h
    refine ⟨v, r, e, ?_, CR.deep hS hc d.2 h2⟩
    cases ha : a.isAgg <;> simp only [ha] at h1 ⊢
    · exact CR.deep hS hc d.1 h1
    · obtain ⟨cs, e, h⟩ := h1; exact ⟨cs, e, CR.deep hS hc d.1 h⟩
  | true, .int _, vs, x, _, h | true, .bool, vs, x, _, h | true, .str, vs, x, _, h | true, .sl _, vs, x, _, h | true, .arr _ _, vs, x, _, h | true, .ip _, vs, x, _, h | true, .rf _, vs, x, _, h | true, .pt, vs, x, _, h
  | true, .nilS, vs, x, _, h | true, .nilP, vs, x, _, h | true, .nilF, vs, x, _, h | true, .nilM, vs, x, _, h | true, .fn _ _, vs, x, _, h | true, .tup _, vs, x, _, h | true, .undef, vs, x, _, h => by simp only [CR] at h

theorem VR.deep {m m' : M} (hS : ∀ b, m.S b → m'.S b) (hc : ∀ b o v, m.S b → m.w.cell? ⟨b, o, none⟩ = some v → m'.w.cell? ⟨b, o, none⟩ = some v) {v : Value} {u : V} (hd : u.t.deep = true) (h : VR m v u) : VR m' v u := by
  unfold VR at *
  cases hu : u.t.isAgg <;> simp only [hu] at h ⊢
  · exact CR.deep hS hc hd h
  · obtain ⟨cs, e, h⟩ := h; exact ⟨cs, e, CR.deep hS hc hd h⟩

/-- Of values that lead to no memory the world tells nothing. -/
theorem CR.flat {m m' : M} : ∀ {b : Bool} {t : Ty} {cs : List Value} {x : t.El}, t.flat = true → CR m b t cs x → CR m' b t cs x
  | false, .unit, cs, x, _, h => by simpa only [CR] using h
  | false, .int _, cs, x, _, h => by simpa only [CR] using h
  | false, .bool, cs, x, _, h => by simpa only [CR] using h
  | false, .str, cs, x, _, h => by simpa only [CR] using h
  | false, .sl t, cs, x, d, h => by simp [Ty.flat] at d
  | false, .arr n t, cs, x, d, h => by
    simp only [Ty.flat] at d
    simp only [CR] at h ⊢
    obtain ⟨h0, css, h1, h2, h3⟩ := h
    exact ⟨h0, css, h1, h2, fun i hi => ⟨(h3 i hi).1, CR.flat d (h3 i hi).2⟩⟩
  | false, .pair a b, cs, x, d, h => by
    simp only [Ty.flat, Bool.and_eq_true] at d
    simp only [CR] at h ⊢
    obtain ⟨c1, c2, h1, h2, h3, h4⟩ := h
    exact ⟨c1, c2, h1, h2, CR.flat d.1 h3, CR.flat d.2 h4⟩
  | false, .ip t, cs, x, d, h => by simp [Ty.flat] at d
  | false, .rf t, cs, x, d, h => by simp [Ty.flat] at d
  | false, .pt, cs, x, d, h => by simp [Ty.flat] at d
  | false, .nilS, cs, x, _, h => by simpa only [CR] using h
  | false, .nilP, cs, x, _, h => by simpa only [CR] using h
  | false, .nilF, cs, x, _, h => by simpa only [CR] using h
  | false, .nilM, cs, x, _, h => by simpa only [CR] using h
  | false, .fn f c, cs, x, d, h => by simp [Ty.flat] at d
  | false, .tup c, cs, x, d, h => by
    simp only [Ty.flat] at d
    simp only [CR] at h ⊢
    obtain ⟨vs, e, h⟩ := h
    exact ⟨vs, e, CR.flat d h⟩
  | false, .undef, cs, x, d, h => by simp [Ty.flat] at d
  | true, .unit, vs, x, _, h => by simpa only [CR] using h
  | true, .pair a b, vs, x, d, h => by
    simp only [Ty.flat, Bool.and_eq_true] at d
    simp only [CR] at h ⊢
    obtain ⟨v, r, e, h1, h2⟩ := h
    refine ⟨v, r, e, ?_, CR.flat d.2 h2⟩
    cases ha : a.isAgg <;> simp only [ha] at h1 ⊢
    · exact CR.flat d.1 h1
    · obtain ⟨cs, e, h⟩ := h1; exact ⟨cs, e, CR.flat d.1 h⟩
  | true, .int _, vs, x, _, h | true, .bool, vs, x, _, h | true, .str, vs, x, _, h | true, .sl _, vs, x, _, h | true, .arr _ _, vs, x, _, h | true, .ip _, vs, x, _, h | true, .rf _, vs, x, _, h | true, .pt, vs, x, _, h
  | true, .nilS, vs, x, _, h | true, .nilP, vs, x, _, h | true, .nilF, vs, x, _, h | true, .nilM, vs, x, _, h | true, .fn _ _, vs, x, _, h | true, .tup _, vs, x, _, h | true, .undef, vs, x, _, h => by simp only [CR] at h

theorem VR.flat {m m' : M} {v : Value} {u : V} (hd : u.t.flat = true) (h : VR m v u) : VR m' v u := by
  unfold VR at *
  cases hu : u.t.isAgg <;> simp only [hu] at h ⊢
  · exact CR.flat hd h
  · obtain ⟨cs, e, h⟩ := h; exact ⟨cs, e, CR.flat hd h⟩

/-! #### Objects that go on -/

theorem getD_set {H : List Obj} {i j : Nat} {o : Obj} (hi : i < H.length) : (H.set i o).getD j .none = if j = i then o else H.getD j .none := by
  simp only [List.getD_eq_getElem?_getD, List.getElem?_set]
  by_cases h : i = j
  · subst h; simp [hi]
  · rw [if_neg h, if_neg (Ne.symm h)]

/-- An object goes on as it is where its block does. -/
theorem OR.go {m m' : M} {i : Nat} {ob : Obj} (hle : m.le m') (hρ : m'.ρ i = m.ρ i) (hsz : m.w.heap.size ≤ m'.w.heap.size)
    (hb : ∀ b base cap, m.ρ i = some (b, base, cap) → b < m.w.heap.size → (∀ o, m'.w.cell? ⟨b, o, none⟩ = m.w.cell? ⟨b, o, none⟩) ∧ (∀ o, m'.w.frozen? ⟨b, o, none⟩ = m.w.frozen? ⟨b, o, none⟩) ∧ (¬ m.S b → ¬ m'.S b)) (h : OR m i ob) : OR m' i ob := by
  have hwr : ∀ fz b base n, b < m.w.heap.size → (∃ cap, m.ρ i = some (b, base, cap)) → WR m fz b base n → WR m' fz b base n := by
    intro fz b base n hlt ⟨cap, hr⟩ hw
    obtain ⟨q1, q2, q3⟩ := hb b base cap hr hlt
    unfold WR at *
    cases fz
    · exact ⟨q3 hw.1, fun j hj => by rw [q1, q2]; exact hw.2 j hj⟩
    · exact hle.S _ hw
  cases ob with
  | none => trivial
  | free => trivial
  | box v fz =>
    simp only [OR] at h ⊢
    obtain ⟨b, base, cap, cs, r1, r2, r3, r4, r5⟩ := h
    exact ⟨b, base, cap, cs, by rw [hρ]; exact r1, Nat.lt_of_lt_of_le r2 hsz, fun j v hj => by rw [(hb b base cap r1 r2).1]; exact r3 j v hj, r4.mono hle, hwr _ _ _ _ r2 ⟨cap, r1⟩ r5⟩
  | row t l fz =>
    simp only [OR] at h ⊢
    rcases h with ⟨h, h'⟩ | ⟨b, base, cap, r1, r2, r3, r3', r4, r5⟩
    · exact .inl ⟨h, by rw [hρ]; exact h'⟩
    · refine .inr ⟨b, base, cap, by rw [hρ]; exact r1, Nat.lt_of_lt_of_le r2 hsz, r3, r3', fun k hk => ?_, hwr _ _ _ _ r2 ⟨cap, r1⟩ r5⟩
      obtain ⟨ds, d1, d2, d3⟩ := r4 k hk
      exact ⟨ds, d1, fun j v hj => by rw [(hb b base cap r1 r2).1]; exact d2 j v hj, d3.mono hle⟩

theorem StR.block_lt {m : M} (hs : StR m) {i : Nat} (hi : i < m.H.length) (hl : (m.H.getD i .none).live) {b base cap : Nat} (hρ : m.ρ i = some (b, base, cap)) : b < m.w.heap.size := by
  have := hs.ok i hi
  generalize m.H.getD i .none = ob at *
  cases ob with
  | none => exact hl.elim
  | free => exact hl.elim
  | box v fz => simp only [OR] at this; obtain ⟨b', base', cap', cs, r1, r2, _⟩ := this; rw [hρ] at r1; simp only [Option.some.injEq, Prod.mk.injEq] at r1; rw [r1.1]; exact r2
  | row t l fz =>
    simp only [OR] at this
    rcases this with ⟨_, h⟩ | ⟨b', base', cap', r1, r2, _⟩
    · rw [hρ] at h; cases h
    · rw [hρ] at r1; simp only [Option.some.injEq, Prod.mk.injEq] at r1; rw [r1.1]; exact r2

/-- The world grows. -/
theorem StR.grow {m : M} (hs : StR m) {w' : World} (hg : Grows m.w w') : StR { m with w := w' } ∧ m.le { m with w := w' } := by
  have hle : m.le { m with w := w' } := ⟨⟨hg.1, fun b hb ho => ⟨ho, fun o => hg.cell hb, fun o => hg.frozen hb, fun h => h⟩⟩, fun _ h => h, fun b o v hS hv => by show w'.cell? _ = _; rw [hg.cell (hs.bd b hS)]; exact hv, Nat.le_refl _, fun _ _ => .inr (.inr (RStep.refl _ _)), fun _ _ => OStep.refl _, ⟨hg.2.2, fun b hb _ => hg.2.1 b hb⟩⟩
  refine ⟨⟨fun i hi => ?_, hs.inj, fun b hb => Nat.lt_of_lt_of_le (hs.bd b hb) hg.1⟩, hle⟩
  exact OR.go hle rfl hg.1 (fun b base cap _ hlt => ⟨fun o => hg.cell hlt, fun o => hg.frozen hlt, fun h => h⟩) (hs.ok i hi)

/-- An object is laid in a block that was not there, or in none. -/
theorem StR.lay {m : M} (hs : StR m) {w' : World} (hg : Grows m.w w') {id : Nat} (hid : m.H[id]? = some .free) {ob : Obj} {r : Option (Nat × Nat × Nat)}
    (hr : ∀ b base cap, r = some (b, base, cap) → m.w.heap.size ≤ b)
    (hor : m.le ⟨fun j => if j = id then r else m.ρ j, m.H.set id ob, m.S, w'⟩ → OR ⟨fun j => if j = id then r else m.ρ j, m.H.set id ob, m.S, w'⟩ id ob) :
    StR ⟨fun j => if j = id then r else m.ρ j, m.H.set id ob, m.S, w'⟩ ∧ m.le ⟨fun j => if j = id then r else m.ρ j, m.H.set id ob, m.S, w'⟩ := by
  have hlt : id < m.H.length := by
    rcases Nat.lt_or_ge id m.H.length with h | h
    · exact h
    · rw [List.getElem?_eq_none h] at hid; cases hid
  have hfree : m.H.getD id .none = .free := by simp [List.getD, hid]
  have hle : m.le ⟨fun j => if j = id then r else m.ρ j, m.H.set id ob, m.S, w'⟩ := by
    refine ⟨⟨hg.1, fun b hb ho => ⟨fun ⟨j, j1, j2, base, cap, j3⟩ => ?_, fun o => hg.cell hb, fun o => hg.frozen hb, fun h => h⟩⟩, fun _ h => h, fun b o v hS hv => by show w'.cell? _ = _; rw [hg.cell (hs.bd b hS)]; exact hv, by simp, fun i hi => ?_, fun i hi => ?_, ⟨hg.2.2, fun b hb _ => hg.2.1 b hb⟩⟩
    · simp only [List.length_set] at j1
      simp only [getD_set hlt] at j2
      simp only at j3
      by_cases h : j = id
      · rw [if_pos h] at j3; have := hr _ _ _ j3; omega
      · rw [if_neg h] at j2 j3; exact ho ⟨j, j1, j2, base, cap, j3⟩
    · by_cases h : i = id
      · subst h; exact .inl hfree
      · right; right; simp only [h, if_false]; exact RStep.refl _ _
    · show OStep _ ((m.H.set id ob).getD i .none)
      rw [getD_set hlt]
      split
      · rename_i h; subst h; rw [hfree]; simp [OStep]
      · exact OStep.refl _
  refine ⟨⟨fun i hi => ?_, fun i j hi hj hij li lj b base cap b' base' cap' ri rj => ?_, fun b hb => Nat.lt_of_lt_of_le (hs.bd b hb) hg.1⟩, hle⟩
  · simp only [List.length_set] at hi
    show OR _ i ((m.H.set id ob).getD i .none)
    rw [getD_set hlt]
    split
    · rename_i h; subst h; exact hor hle
    · rename_i h
      exact OR.go hle (by simp [h]) hg.1 (fun b base cap _ hlt => ⟨fun o => hg.cell hlt, fun o => hg.frozen hlt, fun h => h⟩) (hs.ok i hi)
  · simp only [List.length_set] at hi hj
    simp only [getD_set hlt] at li lj
    simp only at ri rj
    by_cases h1 : i = id
    · have h2 : j ≠ id := fun h => hij (h1.trans h.symm)
      simp only [h1, if_true] at ri
      simp only [h2, if_false] at rj lj
      have := hs.block_lt hj lj rj
      have := hr _ _ _ ri
      omega
    · simp only [h1, if_false] at ri li
      by_cases h2 : j = id
      · simp only [h2, if_true] at rj
        have := hs.block_lt hi li ri
        have := hr _ _ _ rj
        omega
      · simp only [h2, if_false] at rj lj
        exact hs.inj i j hi hj hij li lj _ _ _ _ _ _ ri rj

/-- An object is forgotten. -/
theorem StR.forget {m : M} (hs : StR m) {i : Nat} (hi : i < m.H.length) : StR { m with H := m.H.set i .none } ∧ m.le { m with H := m.H.set i .none } := by
  have hle : m.le { m with H := m.H.set i .none } := by
    refine ⟨⟨Nat.le_refl _, fun b hb ho => ⟨fun ⟨j, j1, j2, base, cap, j3⟩ => ?_, fun _ => rfl, fun _ => rfl, fun h => h⟩⟩, fun _ h => h, fun b o v _ hv => hv, by simp, fun j hj => ?_, fun j hj => ?_, ⟨⟨rfl, rfl, rfl⟩, fun _ _ _ => rfl⟩⟩
    · simp only [List.length_set] at j1
      simp only [getD_set hi] at j2
      by_cases h : j = i
      · rw [if_pos h] at j2; exact j2.elim
      · rw [if_neg h] at j2; exact ho ⟨j, j1, j2, base, cap, j3⟩
    · by_cases h : j = i
      · subst h; right; left; show (m.H.set j .none).getD j .none = .none; rw [getD_set hi]; simp
      · exact .inr (.inr (RStep.refl _ _))
    · show OStep _ ((m.H.set i .none).getD j .none)
      rw [getD_set hi]
      split
      · cases m.H.getD j .none <;> simp [OStep]
      · exact OStep.refl _
  refine ⟨⟨fun j hj => ?_, fun j k hj hk hjk lj lk => ?_, hs.bd⟩, hle⟩
  · simp only [List.length_set] at hj
    show OR _ j ((m.H.set i .none).getD j .none)
    rw [getD_set hi]
    split
    · trivial
    · exact OR.go hle rfl (Nat.le_refl _) (fun b base cap _ hlt => ⟨fun o => rfl, fun o => rfl, fun h => h⟩) (hs.ok j hj)
  · simp only [List.length_set] at hj hk
    simp only [getD_set hi] at lj lk
    refine hs.inj j k hj hk hjk ?_ ?_
    · by_cases h : j = i
      · rw [if_pos h] at lj; exact lj.elim
      · rwa [if_neg h] at lj
    · by_cases h : k = i
      · rw [if_pos h] at lk; exact lk.elim
      · rwa [if_neg h] at lk

/-- An object is written: its block alone turns. -/
theorem StR.write {m : M} (hs : StR m) {i b base cap : Nat} (hi : i < m.H.length) (hl : (m.H.getD i .none).live) (hρ : m.ρ i = some (b, base, cap)) (hS : ¬ m.S b) {w' : World}
    (hsz : w'.heap.size = m.w.heap.size) (hcell : ∀ b' o, b' ≠ b → w'.cell? ⟨b', o, none⟩ = m.w.cell? ⟨b', o, none⟩) (hfr : ∀ b' o, w'.frozen? ⟨b', o, none⟩ = m.w.frozen? ⟨b', o, none⟩) (hio : (w'.os = m.w.os ∧ w'.output = m.w.output ∧ w'.tape = m.w.tape) ∧ ∀ b', b' ≠ b → w'.heap[b']? = m.w.heap[b']?)
    {ob : Obj} (hst : OStep (m.H.getD i .none) ob) (hlive : ob.live) (hor : m.le ⟨m.ρ, m.H.set i ob, m.S, w'⟩ → OR ⟨m.ρ, m.H.set i ob, m.S, w'⟩ i ob) :
    StR ⟨m.ρ, m.H.set i ob, m.S, w'⟩ ∧ m.le ⟨m.ρ, m.H.set i ob, m.S, w'⟩ := by
  have hle : m.le ⟨m.ρ, m.H.set i ob, m.S, w'⟩ := by
    refine ⟨⟨by show _ ≤ w'.heap.size; omega, fun b' hb' ho => ⟨fun ⟨j, j1, j2, base', cap', j3⟩ => ?_, fun o => hcell b' o (fun h => ho (h ▸ ⟨i, hi, hl, base, cap, hρ⟩)), fun o => hfr b' o, fun h => h⟩⟩, fun _ h => h, fun b' o v hS' hv => ?_, by simp, fun j hj => .inr (.inr (RStep.refl _ _)), fun j hj => ?_, ⟨hio.1, fun b' _ ho => hio.2 b' (fun h => ho (h ▸ ⟨i, hi, hl, base, cap, hρ⟩))⟩⟩
    · simp only [List.length_set] at j1
      by_cases h : j = i
      · subst h; exact ho ⟨j, j1, hl, base', cap', j3⟩
      · simp only [getD_set hi] at j2
        rw [if_neg h] at j2; exact ho ⟨j, j1, j2, base', cap', j3⟩
    · show w'.cell? _ = _
      rw [hcell b' o (fun h => hS (h ▸ hS'))]; exact hv
    · show OStep _ ((m.H.set i ob).getD j .none)
      rw [getD_set hi]
      split
      · rename_i h; subst h; exact hst
      · exact OStep.refl _
  refine ⟨⟨fun j hj => ?_, fun j k hj hk hjk lj lk => ?_, fun b' hb => by show b' < w'.heap.size; rw [hsz]; exact hs.bd b' hb⟩, hle⟩
  · simp only [List.length_set] at hj
    show OR _ j ((m.H.set i ob).getD j .none)
    rw [getD_set hi]
    split
    · rename_i h; subst h; exact hor hle
    · rename_i h
      by_cases hlj : (m.H.getD j .none).live
      · refine OR.go hle rfl (by show _ ≤ w'.heap.size; omega) (fun b' base' cap' r' _ => ?_) (hs.ok j hj)
        have hne := hs.inj j i hj hi h hlj hl _ _ _ _ _ _ r' hρ
        exact ⟨fun o => hcell b' o hne, fun o => hfr b' o, fun h => h⟩
      · have := hs.ok j hj
        generalize m.H.getD j .none = oj at *
        cases oj <;> simp [Obj.live] at hlj <;> trivial
  · simp only [List.length_set] at hj hk
    simp only [getD_set hi] at lj lk
    refine hs.inj j k hj hk hjk ?_ ?_
    · by_cases h : j = i
      · rw [h]; exact hl
      · rwa [if_neg h] at lj
    · by_cases h : k = i
      · rw [h]; exact hl
      · rwa [if_neg h] at lk


/-- An object is frozen. -/
theorem StR.freeze {m : M} (hs : StR m) {i : Nat} (hi : i < m.H.length) :
    ∃ S' : Nat → Prop, (∀ b, m.S b → S' b) ∧ (∀ b base cap, m.ρ i = some (b, base, cap) → (m.H.getD i .none).live → S' b) ∧
      StR ⟨m.ρ, m.H.set i (frz (m.H.getD i .none)), S', m.w⟩ ∧ m.le ⟨m.ρ, m.H.set i (frz (m.H.getD i .none)), S', m.w⟩ := by
  by_cases hl : (m.H.getD i .none).live
  case neg =>
    have he : m.H.set i (frz (m.H.getD i .none)) = m.H := by
      apply List.ext_getElem? ; intro j
      rw [List.getElem?_set]
      split
      · rename_i h; subst h
        have h1 : m.H[i]? = some (m.H.getD i .none) := by simp [List.getD, hi]
        rw [h1]
        generalize m.H.getD i .none = ob at *
        cases ob <;> simp [Obj.live] at hl <;> simp [frz, hi]
      · rfl
    rw [he]
    exact ⟨m.S, fun _ h => h, fun _ _ _ _ h => absurd h hl, hs, M.le.refl m⟩
  case pos =>
  refine ⟨fun b => m.S b ∨ ∃ base cap, m.ρ i = some (b, base, cap), fun _ h => .inl h, fun b base cap h _ => .inr ⟨base, cap, h⟩, ?_⟩
  have hst : OStep (m.H.getD i .none) (frz (m.H.getD i .none)) := by cases m.H.getD i .none <;> simp [frz, OStep, skel_refl]
  have hlf : (frz (m.H.getD i .none)).live := by
    generalize m.H.getD i .none = ob at *
    cases ob <;> simp_all [frz, Obj.live]
  have hle : m.le ⟨m.ρ, m.H.set i (frz (m.H.getD i .none)), fun b => m.S b ∨ ∃ base cap, m.ρ i = some (b, base, cap), m.w⟩ := by
    refine ⟨⟨Nat.le_refl _, fun b hb ho => ⟨fun ⟨j, j1, j2, base, cap, j3⟩ => ?_, fun _ => rfl, fun _ => rfl, fun h => ?_⟩⟩, fun _ h => .inl h, fun b o v _ hv => hv, by simp, fun j hj => .inr (.inr (RStep.refl _ _)), fun j hj => ?_, ⟨⟨rfl, rfl, rfl⟩, fun _ _ _ => rfl⟩⟩
    · simp only [List.length_set] at j1
      by_cases h : j = i
      · subst h; exact ho ⟨j, j1, hl, base, cap, j3⟩
      · simp only [getD_set hi] at j2
        rw [if_neg h] at j2; exact ho ⟨j, j1, j2, base, cap, j3⟩
    · rcases h with h | ⟨base, cap, h⟩
      · exact h
      · exact absurd ⟨i, hi, hl, base, cap, h⟩ ho
    show OStep _ ((m.H.set i _).getD j .none)
    rw [getD_set hi]
    split
    · rename_i h; subst h; exact hst
    · exact OStep.refl _
  refine ⟨⟨fun j hj => ?_, fun j k hj hk hjk lj lk => ?_, fun b hb => ?_⟩, hle⟩
  · simp only [List.length_set] at hj
    show OR _ j ((m.H.set i _).getD j .none)
    rw [getD_set hi]
    split
    · rename_i h; subst h
      have := hs.ok j hi
      generalize m.H.getD j .none = ob at *
      cases ob with
      | none => trivial
      | free => trivial
      | box v fz =>
        simp only [OR, frz] at this ⊢
        obtain ⟨b, base, cap, cs, r1, r2, r3, r4, r5⟩ := this
        exact ⟨b, base, cap, cs, r1, r2, r3, r4.mono hle, .inr ⟨base, cap, r1⟩⟩
      | row t l fz =>
        simp only [OR, frz] at this ⊢
        rcases this with h | ⟨b, base, cap, r1, r2, r3, r3', r4, r5⟩
        · exact .inl h
        · refine .inr ⟨b, base, cap, r1, r2, r3, r3', fun k hk => ?_, .inr ⟨base, cap, r1⟩⟩
          obtain ⟨ds, d1, d2, d3⟩ := r4 k hk
          exact ⟨ds, d1, d2, d3.mono hle⟩
    · rename_i h
      by_cases hlj : (m.H.getD j .none).live
      · refine OR.go hle rfl (Nat.le_refl _) (fun b base cap r' _ => ⟨fun o => rfl, fun o => rfl, fun hn hc => ?_⟩) (hs.ok j hj)
        rcases hc with hc | ⟨base', cap', hc⟩
        · exact hn hc
        · exact hs.inj j i hj hi h hlj hl _ _ _ _ _ _ r' hc rfl
      · have := hs.ok j hj
        generalize m.H.getD j .none = oj at *
        cases oj <;> simp [Obj.live] at hlj <;> trivial
  · simp only [List.length_set] at hj hk
    simp only [getD_set hi] at lj lk
    refine hs.inj j k hj hk hjk ?_ ?_
    · by_cases h : j = i
      · rw [h]; exact hl
      · rwa [if_neg h] at lj
    · by_cases h : k = i
      · rw [h]; exact hl
      · rwa [if_neg h] at lk
  · rcases hb with hb | ⟨base, cap, hb⟩
    · exact hs.bd b hb
    · exact hs.block_lt hi hl hb

theorem live_frz {o : Obj} (h : (frz o).live) : o.live := by cases o <;> simp [frz, Obj.live] at h ⊢

theorem frz_frz (o : Obj) : frz (frz o) = frz o := by cases o <;> rfl

/-- What is frozen: an object's block is not written any more. -/
def Fz (m : M) (i : Nat) : Prop := ∀ b base cap, m.ρ i = some (b, base, cap) → (m.H.getD i .none).live → m.S b

theorem ups_length (H : List Obj) (l : List (Nat × Obj)) : (ups H l).length = H.length := by
  induction l generalizing H with
  | nil => rfl
  | cons x l ih => obtain ⟨i, o⟩ := x; simp [ups, ih]

/-- Several objects are frozen. -/
theorem StR.freezes {H : List Obj} : ∀ {z : List Nat} {m : M}, StR m → m.H.length = H.length → (∀ i ∈ z, i < H.length ∧ (m.H.getD i .none = H.getD i .none ∨ m.H.getD i .none = frz (H.getD i .none))) →
    ∃ S' : Nat → Prop, (∀ b, m.S b → S' b) ∧ StR ⟨m.ρ, ups m.H (frzAll H z), S', m.w⟩ ∧ m.le ⟨m.ρ, ups m.H (frzAll H z), S', m.w⟩ ∧ ∀ i, (i ∈ z ∨ Fz m i) → i < H.length → Fz ⟨m.ρ, ups m.H (frzAll H z), S', m.w⟩ i
  | [], m, hs, hl, _ => ⟨m.S, fun _ h => h, hs, M.le.refl m, fun i hi _ => by rcases hi with hi | hi; · cases hi
                                                                              · exact hi⟩
  | i :: z, m, hs, hl, hz => by
    obtain ⟨hi, he⟩ := hz i (by simp)
    have hf : frz (m.H.getD i .none) = frz (H.getD i .none) := by
      rcases he with he | he <;> rw [he]
      rw [frz_frz]
    obtain ⟨S1, h1, h2, hs1, hle1⟩ := hs.freeze (i := i) (by omega)
    rw [hf] at hs1 hle1
    obtain ⟨S2, g1, hs2, hle2, g2⟩ := StR.freezes (z := z) (m := ⟨m.ρ, m.H.set i (frz (H.getD i .none)), S1, m.w⟩) hs1 (by simpa using hl) (fun j hj => by
      obtain ⟨q1, q2⟩ := hz j (by simp [hj])
      refine ⟨q1, ?_⟩
      show (m.H.set i _).getD j .none = _ ∨ (m.H.set i _).getD j .none = _
      rw [getD_set (by omega)]
      split
      · rename_i h; subst h; exact .inr rfl
      · exact q2)
    refine ⟨S2, fun b hb => g1 b (h1 b hb), hs2, hle1.trans hle2, fun j hj hjl => ?_⟩
    refine g2 j ?_ hjl
    rcases hj with hj | hj
    · cases hj with
      | head =>
        right
        intro b base cap hb hlv
        refine h2 b base cap hb ?_
        have : (m.H.set i (frz (H.getD i .none))).getD i .none = frz (H.getD i .none) := by rw [getD_set (by omega)]; simp
        simp only [this] at hlv
        rw [← hf] at hlv
        exact live_frz hlv
      | tail _ hj => exact .inl hj
    · right
      intro b base cap hb hlv
      by_cases hji : j = i
      · subst hji
        refine h2 b base cap hb ?_
        have : (m.H.set j (frz (H.getD j .none))).getD j .none = frz (H.getD j .none) := by rw [getD_set (by omega)]; simp
        simp only [this] at hlv
        rw [← hf] at hlv
        exact live_frz hlv
      · refine h1 b (hj b base cap hb ?_)
        have : (m.H.set i (frz (H.getD i .none))).getD j .none = m.H.getD j .none := by rw [getD_set (by omega)]; simp [hji]
        simp only [this] at hlv
        exact hlv

end Go.Abs
