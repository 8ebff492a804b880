/- What an abstract value tells of a value and of memory. -/
import Derived.WalkKit
import Derived.Test.YthinfcjijphooaaAbs1
namespace Go.Abs
set_option linter.unusedVariables false
set_option linter.unusedSimpArgs false
open Go

/-- Cells that lie side by side. -/
def At (w : World) (b o : Nat) (cs : List Value) : Prop := ∀ j (v : Value), cs[j]? = some v → w.cell? ⟨b, o + j, none⟩ = some v

def pathOff : List Stp → Nat
  | [] => 0
  | .fld off _ :: r => off + pathOff r
  | .idx sz i :: r => i * sz + pathOff r

def okT : Ty → List Stp → Prop
  | _, [] => True
  | t, .fld off j :: r => offOf t j = off ∧ (match compT t j with | some u => okT u r | none => False)
  | .arr n t, .idx sz i :: r => t.cells = sz ∧ i < n ∧ okT t r
  | _, _ => False

def okO : Obj → List Stp → Prop
  | .none, _ => True
  | .free, _ => False
  | .box v _, r => okT v.t r
  | .row _ _ _, [] => True
  | .row t l _, .idx sz i :: r => t.cells = sz ∧ i < l.length ∧ okT t r
  | _, _ => False

/-- Memory as it is seen: where the objects lie (block, begin, room in elements), the objects, which blocks are never written any more. -/
structure M where
  ρ : Nat → Option (Nat × Nat × Nat)
  H : List Obj
  S : Nat → Prop
  w : World

/-- Cells 'cs' are told as 'x' ('false'); values side by side are told as a row of parts ('true'). -/
def CR (m : M) : Bool → (t : Ty) → List Value → t.El → Prop
  | false, .unit, cs, _ => cs = []
  | false, .int k, cs, x => cs = [.int k x] ∧ inK k x = true
  | false, .bool, cs, x => cs = [.bool x]
  | false, .str, cs, x => ∃ s, cs = [.string s] ∧ strOf s = x ∧ s.data.toList.length ≤ LIM
  | false, .sl t, cs, x => ∃ a n c, cs = [.slice a n c] ∧ n = List.length (x : List t.El) ∧ n ≤ c ∧ n ≤ LIM ∧
      ∀ i, i < n → ∃ b o ds, a = some ⟨b, o, none⟩ ∧ m.S b ∧ ds.length = t.cells ∧ At m.w b (o + i * t.cells) ds ∧ CR m false t ds (List.getD (x : List t.El) i t.dflt)
  | false, .arr n t, cs, x => List.length (x : List t.El) = n ∧ ∃ css : List (List Value), cs = css.flatten ∧ css.length = n ∧
      ∀ i, i < n → (css.getD i []).length = t.cells ∧ CR m false t (css.getD i []) (List.getD (x : List t.El) i t.dflt)
  | false, .pair a b, cs, x => ∃ c1 c2, cs = c1 ++ c2 ∧ c1.length = a.cells ∧ CR m false a c1 x.1 ∧ CR m false b c2 x.2
  | false, .ip t, cs, x => ∃ b o ds, cs = [.pointer (some ⟨b, o, none⟩)] ∧ m.S b ∧ ds.length = t.cells ∧ At m.w b o ds ∧ CR m false t ds x
  | false, .rf t, cs, x => ∃ a n c, cs = [.slice a n c] ∧ n ≤ c ∧ n ≤ LIM ∧ x.1 < m.H.length ∧
      (match m.H.getD x.1 .none with
       | .none => True
       | .free => False
       | .box _ _ => False
       | .row t' l _ => t' = t ∧
          (match x.2 with
           | none => n = l.length ∧ (c = 0 ∨ ∃ b base cap, m.ρ x.1 = some (b, base, cap) ∧ a = some ⟨b, base, none⟩ ∧ c ≤ cap)
           | some (off, len) => n = len ∧ off + len ≤ l.length ∧ l.length ≤ off + c ∧
              (c = 0 ∨ ∃ b base cap, m.ρ x.1 = some (b, base, cap) ∧ a = some ⟨b, base + off * t.cells, none⟩ ∧ off + c ≤ cap)))
  | false, .pt, cs, x => ∃ b o, cs = [.pointer (some ⟨b, o, none⟩)] ∧ x.1 < m.H.length ∧
      (m.H.getD x.1 .none = .none ∨ (okO (m.H.getD x.1 .none) x.2 ∧ ∃ base cap, m.ρ x.1 = some (b, base, cap) ∧ o = base + pathOff x.2))
  | false, .nilS, cs, _ => cs = [.slice none 0 0]
  | false, .nilP, cs, _ => cs = [.pointer none]
  | false, .nilF, cs, _ => cs = [.nilFunc]
  | false, .nilM, cs, _ => cs = [.map none]
  | false, .fn f c, cs, x => ∃ vs : Array Value, cs = [.func (.func f) #[] vs] ∧ CR m true c vs.toList x
  | false, .tup c, cs, x => ∃ vs : Array Value, cs = [.tuple vs] ∧ CR m true c vs.toList x
  | false, .undef, cs, _ => cs.length = 1
  | true, .unit, vs, _ => vs = []
  | true, .pair a b, vs, x => ∃ v r, vs = v :: r ∧ (match a.isAgg with
      | true => ∃ cs : Array Value, v = .agg cs ∧ CR m false a cs.toList x.1
      | false => CR m false a [v] x.1) ∧ CR m true b r x.2
  | true, _, _, _ => False

/-- A value is told as an abstract one; of 'undef' nothing is told. -/
def VR (m : M) (v : Value) (u : V) : Prop :=
  match u.t.isAgg with
  | true => ∃ cs : Array Value, v = .agg cs ∧ CR m false u.t cs.toList u.x
  | false => CR m false u.t [v] u.x

theorem VR.undef (m : M) (v : Value) : VR m v V.undef := by simp [VR, V.undef, Ty.isAgg, CR]

theorem flatten_len {l : List (List Value)} {k : Nat} (h : ∀ i, i < l.length → (l.getD i []).length = k) : l.flatten.length = l.length * k := by
  induction l with
  | nil => simp
  | cons a r ih =>
    have h0 := h 0 (by simp)
    have hr := ih (fun i hi => by have := h (i + 1) (by simp; omega); simpa using this)
    simp at h0
    simp only [List.flatten_cons, List.length_append, List.length_cons, hr, h0, Nat.add_mul]
    omega

theorem CR.len {m : M} : ∀ {t : Ty} {cs : List Value} {x : t.El}, CR m false t cs x → cs.length = t.cells
  | .unit, cs, x, h => by simp only [CR] at h; simp [h, Ty.cells]
  | .int _, cs, x, h => by simp only [CR] at h; simp [h.1, Ty.cells]
  | .bool, cs, x, h => by simp only [CR] at h; simp [h, Ty.cells]
  | .str, cs, x, h => by simp only [CR] at h; obtain ⟨s, rfl, _⟩ := h; simp [Ty.cells]
  | .sl _, cs, x, h => by simp only [CR] at h; obtain ⟨_, _, _, rfl, _⟩ := h; simp [Ty.cells]
  | .arr n t, cs, x, h => by
    simp only [CR] at h; obtain ⟨_, css, rfl, hl, hi⟩ := h
    rw [flatten_len (k := t.cells) (fun i h' => (hi i (hl ▸ h')).1), hl]; simp [Ty.cells]
  | .pair a b, cs, x, h => by
    simp only [CR] at h; obtain ⟨c1, c2, rfl, h1, _, h2⟩ := h
    simp [Ty.cells, h1, CR.len h2]
  | .ip _, cs, x, h => by simp only [CR] at h; obtain ⟨_, _, _, rfl, _⟩ := h; simp [Ty.cells]
  | .rf _, cs, x, h => by simp only [CR] at h; obtain ⟨_, _, _, rfl, _⟩ := h; simp [Ty.cells]
  | .pt, cs, x, h => by simp only [CR] at h; obtain ⟨_, _, rfl, _⟩ := h; simp [Ty.cells]
  | .nilS, cs, x, h => by simp only [CR] at h; simp [h, Ty.cells]
  | .nilP, cs, x, h => by simp only [CR] at h; simp [h, Ty.cells]
  | .nilF, cs, x, h => by simp only [CR] at h; simp [h, Ty.cells]
  | .nilM, cs, x, h => by simp only [CR] at h; simp [h, Ty.cells]
  | .fn _ _, cs, x, h => by simp only [CR] at h; obtain ⟨_, rfl, _⟩ := h; simp [Ty.cells]
  | .tup _, cs, x, h => by simp only [CR] at h; obtain ⟨_, rfl, _⟩ := h; simp [Ty.cells]
  | .undef, cs, x, h => by simp only [CR] at h; simp [h, Ty.cells]

/-- What an object may become. -/
def OStep : Obj → Obj → Prop
  | .free, _ => True
  | _, .none => True
  | .box v _, .box v' _ => Ty.skel v.t v'.t = true
  | .row t l _, .row t' l' _ => t = t' ∧ l.length = l'.length
  | .box v _, .row t' l' _ => v.t = .arr l'.length t'
  | _, _ => False

def Obj.live : Obj → Prop | .none => False | .free => False | _ => True

/-- A block that an object lies in. -/
def Own (m : M) (b : Nat) : Prop := ∃ j, j < m.H.length ∧ (m.H.getD j .none).live ∧ ∃ base cap, m.ρ j = some (b, base, cap)

/-- Blocks in which no object lies stay as they are. -/
def Fr (m m' : M) : Prop := m.w.heap.size ≤ m'.w.heap.size ∧ ∀ b, b < m.w.heap.size → ¬ Own m b →
  ¬ Own m' b ∧ (∀ o, m'.w.cell? ⟨b, o, none⟩ = m.w.cell? ⟨b, o, none⟩) ∧ (∀ o, m'.w.frozen? ⟨b, o, none⟩ = m.w.frozen? ⟨b, o, none⟩) ∧ (m'.S b → m.S b)

theorem Fr.refl (m : M) : Fr m m := ⟨Nat.le_refl _, fun _ _ h => ⟨h, fun _ => rfl, fun _ => rfl, fun h => h⟩⟩
theorem Fr.trans {a b c : M} (h : Fr a b) (g : Fr b c) : Fr a c := ⟨Nat.le_trans h.1 g.1, fun x hx ho => by
  obtain ⟨h1, h2, h3, h4⟩ := h.2 x hx ho
  obtain ⟨g1, g2, g3, g4⟩ := g.2 x (Nat.lt_of_lt_of_le hx h.1) h1
  exact ⟨g1, fun o => (g2 o).trans (h2 o), fun o => (g3 o).trans (h3 o), fun hs => h4 (g4 hs)⟩⟩

/-- In blocks in which no object lies nothing turns, nor what is written outside. -/
def Kept (m m' : M) : Prop := (m'.w.os = m.w.os ∧ m'.w.output = m.w.output ∧ m'.w.tape = m.w.tape) ∧ ∀ b, b < m.w.heap.size → ¬ Own m b → m'.w.heap[b]? = m.w.heap[b]?

/-- Where an object lies stays; of a variable that becomes a row the room is told anew. -/
def RStep : Obj → Option (Nat × Nat × Nat) → Option (Nat × Nat × Nat) → Prop
  | .box _ _, r, r' => r' = r ∨ ∃ b base c c', r = some (b, base, c) ∧ r' = some (b, base, c')
  | _, r, r' => r' = r
theorem RStep.refl (o : Obj) (r : Option (Nat × Nat × Nat)) : RStep o r r := by cases o <;> simp [RStep]

structure M.le (m m' : M) : Prop where
  fr : Fr m m'
  S : ∀ b, m.S b → m'.S b
  cell : ∀ b o v, m.S b → m.w.cell? ⟨b, o, none⟩ = some v → m'.w.cell? ⟨b, o, none⟩ = some v
  len : m.H.length ≤ m'.H.length
  rho : ∀ i, i < m.H.length → m.H.getD i .none = .free ∨ m'.H.getD i .none = .none ∨ RStep (m.H.getD i .none) (m.ρ i) (m'.ρ i)
  obj : ∀ i, i < m.H.length → OStep (m.H.getD i .none) (m'.H.getD i .none)
  kept : Kept m m'

theorem skel_refl : ∀ t : Ty, Ty.skel t t = true
  | .unit | .int _ | .bool | .str | .sl _ | .ip _ | .rf _ | .pt | .nilS | .nilP | .nilF | .nilM | .fn _ _ | .tup _ | .undef => by simp [Ty.skel]
  | .arr _ _ => by simp [Ty.skel]
  | .pair a b => by simp [Ty.skel, skel_refl a, skel_refl b]

theorem OStep.refl (o : Obj) : OStep o o := by cases o <;> simp [OStep, skel_refl]

theorem M.le.refl (m : M) : m.le m := ⟨Fr.refl m, fun _ h => h, fun _ _ _ _ h => h, Nat.le_refl _, fun _ _ => .inr (.inr (RStep.refl _ _)), fun _ _ => OStep.refl _, ⟨⟨rfl, rfl, rfl⟩, fun _ _ _ => rfl⟩⟩

theorem skel_cells : ∀ {t u : Ty}, Ty.skel t u = true → t.cells = u.cells
  | .pair a b, .pair c d, h => by simp [Ty.skel] at h; simp [Ty.cells, skel_cells h.1, skel_cells h.2]
  | .arr n a, .arr m b, h => by simp [Ty.skel] at h; simp [h.1, h.2]
  | .unit, u, h => by cases u <;> simp_all [Ty.skel, Ty.cells]
  | .int _, u, h | .bool, u, h | .str, u, h | .sl _, u, h | .ip _, u, h | .rf _, u, h | .pt, u, h | .nilS, u, h | .nilP, u, h | .nilF, u, h | .nilM, u, h | .fn _ _, u, h | .tup _, u, h | .undef, u, h => by
    cases u <;> simp_all [Ty.skel, Ty.cells]
  | .pair _ _, .unit, h | .pair _ _, .int _, h | .pair _ _, .bool, h | .pair _ _, .str, h | .pair _ _, .sl _, h | .pair _ _, .arr _ _, h | .pair _ _, .ip _, h | .pair _ _, .rf _, h | .pair _ _, .pt, h
  | .pair _ _, .nilS, h | .pair _ _, .nilP, h | .pair _ _, .nilF, h | .pair _ _, .nilM, h | .pair _ _, .fn _ _, h | .pair _ _, .tup _, h | .pair _ _, .undef, h => by simp [Ty.skel] at h
  | .arr _ _, .unit, h | .arr _ _, .int _, h | .arr _ _, .bool, h | .arr _ _, .str, h | .arr _ _, .sl _, h | .arr _ _, .pair _ _, h | .arr _ _, .ip _, h | .arr _ _, .rf _, h | .arr _ _, .pt, h
  | .arr _ _, .nilS, h | .arr _ _, .nilP, h | .arr _ _, .nilF, h | .arr _ _, .nilM, h | .arr _ _, .fn _ _, h | .arr _ _, .tup _, h | .arr _ _, .undef, h => by simp [Ty.skel] at h

theorem skel_trans : ∀ {t u v : Ty}, Ty.skel t u = true → Ty.skel u v = true → Ty.skel t v = true
  | .pair a b, .pair c d, .pair e f, h, g => by
    simp [Ty.skel] at h g; simp [Ty.skel, skel_trans h.1 g.1, skel_trans h.2 g.2]
  | .pair a b, .pair c d, v, h, g => by cases v <;> simp_all [Ty.skel]; exact ⟨skel_trans h.1 g.1, skel_trans h.2 g.2⟩
  | .pair a b, u, v, h, g => by cases u <;> cases v <;> simp_all [Ty.skel]; exact ⟨skel_trans h.1 g.1, skel_trans h.2 g.2⟩
  | .arr n a, u, v, h, g => by cases u <;> cases v <;> simp_all [Ty.skel]
  | .unit, u, v, h, g => by cases u <;> cases v <;> simp_all [Ty.skel]
  | .int _, u, v, h, g | .bool, u, v, h, g | .str, u, v, h, g | .sl _, u, v, h, g | .ip _, u, v, h, g | .rf _, u, v, h, g | .pt, u, v, h, g | .nilS, u, v, h, g | .nilP, u, v, h, g | .nilF, u, v, h, g | .nilM, u, v, h, g
  | .fn _ _, u, v, h, g | .tup _, u, v, h, g | .undef, u, v, h, g => by
    cases u <;> cases v <;> simp_all [Ty.skel]

theorem skel_compT : ∀ {t u : Ty} (j : Nat), Ty.skel t u = true → offOf t j = offOf u j ∧
    (match compT t j, compT u j with | some p, some q => Ty.skel p q = true | none, none => True | _, _ => False)
  | .pair a b, .pair c d, 0, h => by simp [Ty.skel] at h; simp [offOf, compT, h.1]
  | .pair a b, .pair c d, j + 1, h => by
    simp [Ty.skel] at h
    have := skel_compT j h.2
    simp [offOf, compT, skel_cells h.1, this.1]; exact this.2
  | .pair a b, u, j, h => by cases u <;> simp_all [Ty.skel]; rename_i c d; cases j with
    | zero => simp [offOf, compT, h.1]
    | succ j => have := skel_compT j h.2; simp [offOf, compT, skel_cells h.1, this.1]; exact this.2
  | .arr n a, u, j, h => by cases u <;> simp_all [Ty.skel, offOf, compT]
  | .unit, u, j, h => by cases u <;> simp_all [Ty.skel, offOf, compT]
  | .int _, u, j, h | .bool, u, j, h | .str, u, j, h | .sl _, u, j, h | .ip _, u, j, h | .rf _, u, j, h | .pt, u, j, h | .nilS, u, j, h | .nilP, u, j, h | .nilF, u, j, h | .nilM, u, j, h | .fn _ _, u, j, h | .tup _, u, j, h | .undef, u, j, h => by
    cases u <;> simp_all [Ty.skel, offOf, compT]

theorem okT_skel : ∀ {r : List Stp} {t u : Ty}, Ty.skel t u = true → okT t r → okT u r
  | [], _, _, _, _ => by simp [okT]
  | .fld off j :: r, t, u, h, g => by
    have hc := skel_compT j h
    simp only [okT] at g ⊢
    refine ⟨hc.1 ▸ g.1, ?_⟩
    cases h1 : compT t j <;> cases h2 : compT u j <;> simp_all
    exact okT_skel hc.2 g.2
  | .idx sz i :: r, t, u, h, g => by
    cases t <;> simp [okT] at g
    cases u <;> simp [Ty.skel] at h
    simp only [okT]; obtain ⟨rfl, rfl⟩ := h; exact g

theorem skel_arr {t a : Ty} {n : Nat} (h : Ty.skel t (.arr n a) = true) : t = .arr n a := by
  cases t <;> simp [Ty.skel] at h
  rw [h.1, h.2]

theorem okO_step {o o' : Obj} {r : List Stp} (h : OStep o o') (g : okO o r) : o' = .none ∨ okO o' r := by
  cases o with
  | none => cases o' <;> simp_all [OStep]
  | free => simp [okO] at g
  | box v fz =>
    cases o' with
    | none => exact .inl rfl
    | free => simp [OStep] at h
    | box v' fz' => simp only [OStep] at h; exact .inr (by simp only [okO] at g ⊢; exact okT_skel h g)
    | row t' l' fz' =>
      simp only [OStep] at h
      right
      simp only [okO, h] at g
      cases r with
      | nil => simp [okO]
      | cons s r => cases s <;> simp only [okT, okO, compT] at g ⊢
                    · exact g.2.elim
                    · exact g
  | row t l fz =>
    cases o' with
    | none => exact .inl rfl
    | free => simp [OStep] at h
    | box v' fz' => simp [OStep] at h
    | row t' l' fz' =>
      simp only [OStep] at h
      obtain ⟨rfl, h⟩ := h
      right
      cases r with
      | nil => simp [okO]
      | cons s r => cases s <;> simp only [okO] at g ⊢
                    rw [← h]; exact g

theorem CR.mono {m m' : M} (hle : m.le m') : ∀ {b : Bool} {t : Ty} {cs : List Value} {x : t.El}, CR m b t cs x → CR m' b t cs x
  | false, .unit, cs, x, h => by simpa only [CR] using h
  | false, .int _, cs, x, h => by simpa only [CR] using h
  | false, .bool, cs, x, h => by simpa only [CR] using h
  | false, .str, cs, x, h => by simpa only [CR] using h
  | false, .sl t, cs, x, h => by
    simp only [CR] at h ⊢
    obtain ⟨a, n, c, rfl, h1, h2, h3, h4⟩ := h
    refine ⟨a, n, c, rfl, h1, h2, h3, fun i hi => ?_⟩
    obtain ⟨b, o, ds, e, hS, hl, hat, hc⟩ := h4 i hi
    exact ⟨b, o, ds, e, hle.S _ hS, hl, fun j v hj => hle.cell _ _ _ hS (hat j v hj), CR.mono hle hc⟩
  | false, .arr n t, cs, x, h => by
    simp only [CR] at h ⊢
    obtain ⟨h0, css, h1, h2, h3⟩ := h
    exact ⟨h0, css, h1, h2, fun i hi => ⟨(h3 i hi).1, CR.mono hle (h3 i hi).2⟩⟩
  | false, .pair a b, cs, x, h => by
    simp only [CR] at h ⊢
    obtain ⟨c1, c2, h1, h2, h3, h4⟩ := h
    exact ⟨c1, c2, h1, h2, CR.mono hle h3, CR.mono hle h4⟩
  | false, .ip t, cs, x, h => by
    simp only [CR] at h ⊢
    obtain ⟨b, o, ds, rfl, hS, hl, hat, hc⟩ := h
    exact ⟨b, o, ds, rfl, hle.S _ hS, hl, fun j v hj => hle.cell _ _ _ hS (hat j v hj), CR.mono hle hc⟩
  | false, .rf t, cs, x, h => by
    simp only [CR] at h ⊢
    obtain ⟨a, n, c, rfl, h1, h2, h3, h4⟩ := h
    refine ⟨a, n, c, rfl, h1, h2, Nat.lt_of_lt_of_le h3 hle.len, ?_⟩
    have ho := hle.obj _ h3
    have hr := hle.rho _ h3
    generalize m.H.getD x.1 .none = o at h4 ho hr
    generalize m'.H.getD x.1 .none = o' at ho hr ⊢
    cases o' with
    | none => trivial
    | free => cases o <;> simp [OStep] at ho; exact h4
    | box v fz => cases o <;> simp [OStep] at ho <;> exact h4
    | row t' l' fz =>
      cases o with
      | none => simp [OStep] at ho
      | free => exact h4.elim
      | box _ _ => exact h4.elim
      | row t0 l0 fz0 =>
      simp only [OStep] at ho
      obtain ⟨rfl, hl⟩ := ho
      have hr' : m'.ρ x.1 = m.ρ x.1 := by rcases hr with h | h | h; · cases h
                                          · cases h
                                          · exact h
      simp only [hr', ← hl] at h4 ⊢
      exact h4
  | false, .pt, cs, x, h => by
    simp only [CR] at h ⊢
    obtain ⟨b, o, rfl, h3, h4⟩ := h
    refine ⟨b, o, rfl, Nat.lt_of_lt_of_le h3 hle.len, ?_⟩
    have ho := hle.obj _ h3
    have hr := hle.rho _ h3
    rcases h4 with h4 | ⟨h4, h5⟩
    · rw [h4] at ho; left
      generalize m'.H.getD x.1 .none = o' at ho ⊢
      cases o' <;> simp [OStep] at ho ⊢
    · rcases hr with hr | hr | hr
      · rw [hr] at h4; exact h4.elim
      · exact .inl hr
      · rcases okO_step ho h4 with h6 | h6
        · exact .inl h6
        · refine .inr ⟨h6, ?_⟩
          obtain ⟨base, cap, e1, e2⟩ := h5
          generalize m.H.getD x.1 .none = oo at hr
          cases oo with
          | box v fz =>
            simp only [RStep] at hr
            rcases hr with hr | ⟨b', base', c, c', r1, r2⟩
            · exact ⟨base, cap, by rw [hr]; exact e1, e2⟩
            · rw [e1] at r1; simp only [Option.some.injEq, Prod.mk.injEq] at r1
              obtain ⟨rfl, rfl, _⟩ := r1
              exact ⟨base, c', r2, e2⟩
          | none => simp only [RStep] at hr; exact ⟨base, cap, by rw [hr]; exact e1, e2⟩
          | free => simp only [RStep] at hr; exact ⟨base, cap, by rw [hr]; exact e1, e2⟩
          | row t l fz => simp only [RStep] at hr; exact ⟨base, cap, by rw [hr]; exact e1, e2⟩
  | false, .nilS, cs, x, h => by simpa only [CR] using h
  | false, .nilP, cs, x, h => by simpa only [CR] using h
  | false, .nilF, cs, x, h => by simpa only [CR] using h
  | false, .nilM, cs, x, h => by simpa only [CR] using h
  | false, .fn f c, cs, x, h => by
    simp only [CR] at h ⊢
    obtain ⟨vs, e, h⟩ := h
    exact ⟨vs, e, CR.mono hle h⟩
  | false, .tup c, cs, x, h => by
    simp only [CR] at h ⊢
    obtain ⟨vs, e, h⟩ := h
    exact ⟨vs, e, CR.mono hle h⟩
  | false, .undef, cs, x, h => by simpa only [CR] using h
  | true, .unit, vs, x, h => by simpa only [CR] using h
  | true, .pair a b, vs, x, h => by
    simp only [CR] at h ⊢
    obtain ⟨v, r, e, h1, h2⟩ := h
    refine ⟨v, r, e, ?_, CR.mono hle h2⟩
    cases ha : a.isAgg <;> simp only [ha] at h1 ⊢
    · exact CR.mono hle h1
    · obtain ⟨cs, e, h⟩ := h1; exact ⟨cs, e, CR.mono hle h⟩
  | true, .int _, vs, x, h | true, .bool, vs, x, h | true, .str, vs, x, h | true, .sl _, vs, x, h | true, .arr _ _, vs, x, h | true, .ip _, vs, x, h | true, .rf _, vs, x, h | true, .pt, vs, x, h
  | true, .nilS, vs, x, h | true, .nilP, vs, x, h | true, .nilF, vs, x, h | true, .nilM, vs, x, h | true, .fn _ _, vs, x, h | true, .tup _, vs, x, h | true, .undef, vs, x, h => by simp only [CR] at h

theorem VR.mono {m m' : M} (hle : m.le m') {v : Value} {u : V} (h : VR m v u) : VR m' v u := by
  unfold VR at *
  cases hu : u.t.isAgg <;> simp only [hu] at h ⊢
  · exact CR.mono hle h
  · obtain ⟨cs, e, h⟩ := h; exact ⟨cs, e, CR.mono hle h⟩

theorem OStep.trans {a b c : Obj} (h : OStep a b) (g : OStep b c) : OStep a c := by
  cases a <;> cases b <;> cases c <;> simp_all [OStep]
  · exact skel_trans h g
  · exact skel_arr h

theorem M.le.trans {a b c : M} (h : a.le b) (g : b.le c) : a.le c where
  fr := h.fr.trans g.fr
  S := fun x hx => g.S _ (h.S _ hx)
  cell := fun x o v hS hv => g.cell _ _ _ (h.S _ hS) (h.cell _ _ _ hS hv)
  len := Nat.le_trans h.len g.len
  rho := fun i hi => by
    rcases h.rho i hi with h2 | h2 | h2
    · exact .inl h2
    · have := g.obj i (Nat.lt_of_lt_of_le hi h.len)
      rw [h2] at this
      right; left
      generalize c.H.getD i .none = o at this ⊢
      cases o <;> simp [OStep] at this ⊢
    · rcases g.rho i (Nat.lt_of_lt_of_le hi h.len) with h1 | h1 | h1
      · have := h.obj i hi
        rw [h1] at this
        left
        generalize a.H.getD i .none = o at this ⊢
        cases o <;> simp [OStep] at this ⊢
      · exact .inr (.inl h1)
      · by_cases hf : a.H.getD i .none = .free
        · exact .inl hf
        right; right
        have := h.obj i hi
        generalize a.H.getD i .none = oa at h2 this hf ⊢
        generalize b.H.getD i .none = ob at h1 this
        cases oa <;> cases ob <;> simp [OStep] at this <;> simp only [RStep] at h1 h2 ⊢
        all_goals first
          | exact absurd rfl hf
          | exact h1.trans h2
          | (rcases h2 with h2 | ⟨b', base, c, c', r1, r2⟩
             · rcases h1 with h1 | ⟨b', base, c, c', s1, s2⟩
               · exact .inl (h1.trans h2)
               · exact .inr ⟨b', base, c, c', by rw [← h2]; exact s1, s2⟩
             · rcases h1 with h1 | ⟨b2, base2, c2, c2', s1, s2⟩
               · exact .inr ⟨b', base, c, c', r1, by rw [h1]; exact r2⟩
               · rw [r2] at s1; simp only [Option.some.injEq, Prod.mk.injEq] at s1
                 obtain ⟨rfl, rfl, _⟩ := s1
                 exact .inr ⟨b', base, c, c2', r1, s2⟩)
          | (rcases h2 with h2 | ⟨b', base, c, c', r1, r2⟩
             · exact .inl (h1.trans h2)
             · exact .inr ⟨b', base, c, c', r1, by rw [h1]; exact r2⟩)
          | skip
  obj := fun i hi => (h.obj i hi).trans (g.obj i (Nat.lt_of_lt_of_le hi h.len))
  kept := ⟨⟨g.kept.1.1.trans h.kept.1.1, g.kept.1.2.1.trans h.kept.1.2.1, g.kept.1.2.2.trans h.kept.1.2.2⟩, fun x hx ho => (g.kept.2 x (Nat.lt_of_lt_of_le hx h.fr.1) (h.fr.2 x hx ho).1).trans (h.kept.2 x hx ho)⟩

end Go.Abs
