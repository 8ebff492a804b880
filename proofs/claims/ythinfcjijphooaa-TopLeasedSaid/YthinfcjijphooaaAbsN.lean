/- Calls: contracts. -/
import Derived.Test.YthinfcjijphooaaAbsM
namespace Go.Abs
set_option linter.unusedVariables false
set_option linter.unusedSimpArgs false
open Go

/-- The world and what is never written go on; where nothing is told of a block it stays. -/
structure Ext0 (S0 : Nat → Prop) (w0 : World) (m : M) : Prop where
  size : w0.heap.size ≤ m.w.heap.size
  S : ∀ b, S0 b → m.S b
  io : m.w.os = w0.os ∧ m.w.output = w0.output ∧ m.w.tape = w0.tape
  blk : ∀ b, b < w0.heap.size → m.w.heap[b]? = w0.heap[b]?
  old : ∀ b, b < w0.heap.size → ¬ Own m b ∧ (∀ o, m.w.cell? ⟨b, o, none⟩ = w0.cell? ⟨b, o, none⟩) ∧ (∀ o, m.w.frozen? ⟨b, o, none⟩ = w0.frozen? ⟨b, o, none⟩) ∧ (m.S b → S0 b)

/-- What a function was handed goes on. -/
abbrev Ext (M0 m : M) : Prop := M0.le m
theorem Ext.step {M0 m m' : M} (h : Ext M0 m) (hle : m.le m') : Ext M0 m' := M.le.trans h hle
theorem Ext0.of {ρ : Nat → Option (Nat × Nat × Nat)} {S : Nat → Prop} {w : World} {m : M} (h : Ext ⟨ρ, [], S, w⟩ m) : Ext0 S w m :=
  ⟨h.fr.1, h.S, h.kept.1, fun b hb => h.kept.2 b hb (fun ⟨j, j1, _⟩ => by simp at j1), fun b hb => h.fr.2 b hb (fun ⟨j, j1, _⟩ => by simp at j1)⟩

/-- A call's outcome, as the caller is told. -/
def Res (S : Nat → Prop) (w : World) (s : Spec) (K : V → Prop) (v : Value) (w' : World) : Prop :=
  ∃ (r : V) (m : M), K r ∧ m.w = w' ∧ Ext0 S w m ∧ StR m ∧
    match s.own with
    | false => m.H = [] ∧ r.t.deep = true ∧ (s.flat = true → r.t.flat = true) ∧ VR m v r
    | true => ∃ (t : Ty) (l : List t.El), r = ⟨.sl t, l⟩ ∧ t.deep = true ∧ (s.flat = true → t.flat = true) ∧ m.H = [.row t l false] ∧ VR m v ⟨.rf t, (0, none)⟩

def Does (P : Program) (f : FuncId) (vs : Array Value) (w : World) (R : Value → World → Prop) : Prop :=
  ((callFunc f vs).run P w = .ok (.enter f vs) w ∧ Calls P f vs w fun e w' => ∃ v, e = .returned v ∧ R v w') ∨
  ∃ v w', (callFunc f vs).run P w = .ok (.value v) w' ∧ R v w'

/-- A function keeps its contract. -/
def CallOk (P : Program) (f : FuncId) (s : Spec) : Prop :=
  ∀ (S : Nat → Prop) (w : World) (vs : List Value) (as : List V) (K : V → Prop), (∀ b, S b → b < w.heap.size) → as.length = vs.length → as.length = s.params.length →
    (∀ (j : Nat) (t : Ty), s.params[j]? = some (some t) → ∃ y, as[j]? = some ⟨t, y⟩) →
    (∀ (j : Nat) (v : Value) (u : V), vs[j]? = some v → as[j]? = some u → u.t.deep = true ∧ VR ⟨fun _ => none, [], S, w⟩ v u) → s.run as K → Does P f vs.toArray w (Res S w s K)

/-- The outcome of a call that is handed objects. -/
def ResH (M0 : M) (K : V → List Obj → Prop) (v : Value) (w' : World) : Prop := ∃ (r : V) (m : M), K r m.H ∧ m.w = w' ∧ M0.le m ∧ StR m ∧ VR m v r

/-- A function that is handed objects keeps its contract. -/
def HCallOk (P : Program) (f : FuncId) (s : HSpec) : Prop :=
  ∀ (M0 : M) (vs : List Value) (as : List V) (K : V → List Obj → Prop), StR M0 → (∀ i, i < M0.H.length → M0.H.getD i .none ≠ .free) → as.length = vs.length →
    (∀ (j : Nat) (v : Value) (u : V), vs[j]? = some v → as[j]? = some u → VR M0 v u) → s.run as M0.H K → Does P f vs.toArray M0.w (ResH M0 K)

structure CallsOk (P : Program) (cx : Ctx) : Prop where
  c : ∀ f s, cx.calls f = some s → CallOk P f s
  h : ∀ f s, cx.hcalls f = some s → HCallOk P f s

/-- The world grows; more is never written. -/
theorem StR.ext {m : M} (hs : StR m) {w' : World} {S2 : Nat → Prop} (hsz : m.w.heap.size ≤ w'.heap.size) (hS : ∀ b, m.S b → S2 b)
    (hold : ∀ b, b < m.w.heap.size → (∀ o, w'.cell? ⟨b, o, none⟩ = m.w.cell? ⟨b, o, none⟩) ∧ (∀ o, w'.frozen? ⟨b, o, none⟩ = m.w.frozen? ⟨b, o, none⟩) ∧ (S2 b → m.S b)) (hbd : ∀ b, S2 b → b < w'.heap.size) (hio : (w'.os = m.w.os ∧ w'.output = m.w.output ∧ w'.tape = m.w.tape) ∧ ∀ b, b < m.w.heap.size → w'.heap[b]? = m.w.heap[b]?) :
    StR ⟨m.ρ, m.H, S2, w'⟩ ∧ m.le ⟨m.ρ, m.H, S2, w'⟩ := by
  have hle : m.le ⟨m.ρ, m.H, S2, w'⟩ := ⟨⟨hsz, fun b hb ho => ⟨ho, (hold b hb).1, (hold b hb).2.1, (hold b hb).2.2⟩⟩, hS, fun b o v hb hv => by
    show w'.cell? _ = _; rw [(hold b (hs.bd b hb)).1]; exact hv, Nat.le_refl _, fun _ _ => .inr (.inr (RStep.refl _ _)), fun _ _ => OStep.refl _, ⟨hio.1, fun b hb _ => hio.2 b hb⟩⟩
  refine ⟨⟨fun i hi => ?_, hs.inj, hbd⟩, hle⟩
  exact OR.go hle rfl hsz (fun b base cap _ hlt => ⟨(hold b hlt).1, (hold b hlt).2.1, fun hn h => hn ((hold b hlt).2.2 h)⟩) (hs.ok i hi)

/-- The same, and an object is laid. -/
theorem StR.layS {m : M} (hs : StR m) {w' : World} {S2 : Nat → Prop} (hsz : m.w.heap.size ≤ w'.heap.size) (hS : ∀ b, m.S b → S2 b)
    (hold : ∀ b, b < m.w.heap.size → (∀ o, w'.cell? ⟨b, o, none⟩ = m.w.cell? ⟨b, o, none⟩) ∧ (∀ o, w'.frozen? ⟨b, o, none⟩ = m.w.frozen? ⟨b, o, none⟩) ∧ (S2 b → m.S b)) (hbd : ∀ b, S2 b → b < w'.heap.size) (hio : (w'.os = m.w.os ∧ w'.output = m.w.output ∧ w'.tape = m.w.tape) ∧ ∀ b, b < m.w.heap.size → w'.heap[b]? = m.w.heap[b]?)
    {id : Nat} (hid : m.H[id]? = some .free) {ob : Obj} {r : Option (Nat × Nat × Nat)}
    (hr : ∀ b base c, r = some (b, base, c) → m.w.heap.size ≤ b)
    (hor : m.le ⟨fun j => if j = id then r else m.ρ j, m.H.set id ob, S2, w'⟩ → OR ⟨fun j => if j = id then r else m.ρ j, m.H.set id ob, S2, w'⟩ id ob) :
    StR ⟨fun j => if j = id then r else m.ρ j, m.H.set id ob, S2, w'⟩ ∧ m.le ⟨fun j => if j = id then r else m.ρ j, m.H.set id ob, S2, w'⟩ := by
  have hlt : id < m.H.length := by
    rcases Nat.lt_or_ge id m.H.length with h | h
    · exact h
    · rw [List.getElem?_eq_none h] at hid; cases hid
  have hfree : m.H.getD id .none = .free := by simp [List.getD, hid]
  have hle : m.le ⟨fun j => if j = id then r else m.ρ j, m.H.set id ob, S2, w'⟩ := by
    refine ⟨⟨hsz, fun b hb ho => ⟨fun ⟨j, j1, j2, base, cap, j3⟩ => ?_, (hold b hb).1, (hold b hb).2.1, (hold b hb).2.2⟩⟩, hS, fun b o v hb hv => by
      show w'.cell? _ = _; rw [(hold b (hs.bd b hb)).1]; exact hv, by simp, fun i hi => ?_, fun i hi => ?_, ⟨hio.1, fun b hb _ => hio.2 b hb⟩⟩
    · simp only [List.length_set] at j1
      simp only [getD_set hlt] at j2
      simp only at j3
      by_cases h : j = id
      · rw [if_pos h] at j3; have := hr _ _ _ j3; omega
      · rw [if_neg h] at j2 j3; exact ho ⟨j, j1, j2, base, cap, j3⟩
    · by_cases h : i = id
      · subst h; exact .inl hfree
      · right; right; simp only [h, if_false]; exact RStep.refl _ _
    · show OStep _ ((m.H.set id ob).getD i .none)
      rw [getD_set hlt]
      split
      · rename_i h; subst h; rw [hfree]; simp [OStep]
      · exact OStep.refl _
  refine ⟨⟨fun i hi => ?_, fun i j hi hj hij li lj b base cap b' base' cap' ri rj => ?_, hbd⟩, hle⟩
  · simp only [List.length_set] at hi
    show OR _ i ((m.H.set id ob).getD i .none)
    rw [getD_set hlt]
    split
    · rename_i h; subst h; exact hor hle
    · rename_i h
      exact OR.go hle (by simp [h]) hsz (fun b base cap _ hlt => ⟨(hold b hlt).1, (hold b hlt).2.1, fun hn h => hn ((hold b hlt).2.2 h)⟩) (hs.ok i hi)
  · simp only [List.length_set] at hi hj
    simp only [getD_set hlt] at li lj
    simp only at ri rj
    by_cases h1 : i = id
    · have h2 : j ≠ id := fun h => hij (h1.trans h.symm)
      simp only [h1, if_true] at ri
      simp only [h2, if_false] at rj lj
      have := hs.block_lt hj lj rj
      have := hr _ _ _ ri
      omega
    · simp only [h1, if_false] at ri li
      by_cases h2 : j = id
      · simp only [h2, if_true] at rj
        have := hs.block_lt hi li ri
        have := hr _ _ _ rj
        omega
      · simp only [h2, if_false] at rj lj
        exact hs.inj i j hi hj hij li lj _ _ _ _ _ _ ri rj

theorem tupParts_rel {m : M} : ∀ {t : Ty} {vs : List Value} {x : t.El}, CR m true t vs x → (tupParts t x).length = vs.length ∧ ∀ (j : Nat) (v : Value) (u : V), vs[j]? = some v → (tupParts t x)[j]? = some u → VR m v u
  | .unit, vs, x, h => by simp only [CR] at h; subst h; simp [tupParts]
  | .pair a b, vs, x, h => by
    simp only [CR] at h
    obtain ⟨v, r, rfl, h1, h2⟩ := h
    obtain ⟨i1, i2⟩ := tupParts_rel h2
    refine ⟨by simp [tupParts, i1], fun j v' u hv hu => ?_⟩
    cases j with
    | zero =>
      simp only [tupParts, List.getElem?_cons_zero, Option.some.injEq] at hv hu
      subst hv; subst hu
      unfold VR
      cases ha : a.isAgg <;> simp only [ha] at h1 ⊢ <;> exact h1
    | succ j =>
      simp only [tupParts, List.getElem?_cons_succ] at hv hu
      exact i2 j v' u hv hu
  | .int _, vs, x, h | .bool, vs, x, h | .str, vs, x, h | .sl _, vs, x, h | .arr _ _, vs, x, h | .ip _, vs, x, h | .rf _, vs, x, h | .pt, vs, x, h
  | .nilS, vs, x, h | .nilP, vs, x, h | .nilF, vs, x, h | .nilM, vs, x, h | .fn _ _, vs, x, h | .tup _, vs, x, h | .undef, vs, x, h => by simp only [CR] at h

end Go.Abs
