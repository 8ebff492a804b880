/- The table of types, by a check. -/
import Derived.Test.YthinfcjijphooaaAbsV
namespace Go.Abs
set_option linter.unusedVariables false
set_option linter.unusedSimpArgs false
open Go

/-- Cells that are zero. -/
def zL : Ty → List Value → Bool
  | .unit, cs => cs.isEmpty
  | .int k, [.int k' n] => decide (k' = k) && decide (n = 0)
  | .bool, [.bool b] => !b
  | .str, [.string s] => s.data.toList.isEmpty
  | .sl _, [.slice none n c] => decide (n = 0) && decide (c = 0)
  | .nilS, [.slice none n c] => decide (n = 0) && decide (c = 0)
  | .nilP, [.pointer none] => true
  | .nilF, [.nilFunc] => true
  | .nilM, [.map none] => true
  | .undef, [_] => true
  | .pair a b, cs => decide (a.cells ≤ cs.length) && zL a (cs.take a.cells) && zL b (cs.drop a.cells)
  | .arr n t, cs => decide (cs.length = n * t.cells) && (List.range n).all fun i => zL t ((cs.drop (i * t.cells)).take t.cells)
  | _, _ => false

def zV (v : Value) (t : Ty) : Bool :=
  match t.isAgg with
  | true => match v with | .agg cs => zL t cs.toList | _ => false
  | false => zL t [v]

theorem chunks (k : Nat) : ∀ (n : Nat) (cs : List Value), cs.length = n * k → cs = ((List.range n).map fun i => (cs.drop (i * k)).take k).flatten
  | 0, cs, h => by simp at h; simp [h]
  | n + 1, cs, h => by
    have h' : (cs.drop k).length = n * k := by rw [List.length_drop, h, Nat.add_mul]; omega
    have ih := chunks k n (cs.drop k) h'
    rw [List.range_succ_eq_map]
    simp only [List.map_cons, List.map_map, List.flatten_cons, Nat.zero_mul, List.drop_zero]
    have e : (List.map ((fun i => List.take k (List.drop (i * k) cs)) ∘ Nat.succ) (List.range n)) = (List.range n).map fun i => ((cs.drop k).drop (i * k)).take k := by
      apply List.map_congr_left
      intro i _
      simp only [Function.comp, List.drop_drop]
      congr 2
      rw [Nat.succ_mul]; omega
    rw [e, ← ih, List.take_append_drop]

theorem inK_zero (k : IntKind) : inK k 0 = true := by cases k <;> decide

theorem zL_sound : ∀ {t : Ty} {cs : List Value}, zL t cs = true → ∀ m, CR m false t cs t.dflt := by
  intro t
  induction t with
  | unit => intro cs h m; simp only [CR]; simpa [zL] using h
  | int k =>
    intro cs h m
    unfold zL at h
    split at h <;> simp_all [CR, Ty.dflt]
    all_goals exact inK_zero _
  | bool => intro cs h m; unfold zL at h; split at h <;> simp_all [CR, Ty.dflt]
  | str =>
    intro cs h m; unfold zL at h; split at h <;> simp_all [CR, Ty.dflt, strOf]
    rename_i s; have e : s.size = s.data.size := rfl
    rw [e, h]; simp
  | sl t _ =>
    intro cs h m; unfold zL at h; split at h <;> simp_all [CR, Ty.dflt]
    exact ⟨_, _, _, ⟨rfl, rfl, rfl⟩, rfl, by simp, by simp, fun i hi => by omega⟩
  | nilS => intro cs h m; unfold zL at h; split at h <;> simp_all [CR, Ty.dflt]
  | nilP => intro cs h m; unfold zL at h; split at h <;> simp_all [CR, Ty.dflt]
  | nilF => intro cs h m; unfold zL at h; split at h <;> simp_all [CR, Ty.dflt]
  | nilM => intro cs h m; unfold zL at h; split at h <;> simp_all [CR, Ty.dflt]
  | undef => intro cs h m; unfold zL at h; split at h <;> simp_all [CR, Ty.dflt]
  | pair a b iha ihb =>
    intro cs h m
    simp only [zL, Bool.and_eq_true, decide_eq_true_eq] at h
    simp only [CR]
    exact ⟨cs.take a.cells, cs.drop a.cells, (List.take_append_drop _ _).symm, by simp; omega, iha h.1.2 m, ihb h.2 m⟩
  | arr n t ih =>
    intro cs h m
    simp only [zL, Bool.and_eq_true, decide_eq_true_eq, List.all_eq_true, List.mem_range] at h
    simp only [CR]
    refine ⟨by simp [Ty.dflt], _, chunks t.cells n cs h.1, by simp, fun i hi => ?_⟩
    have e1 : ((List.range n).map fun i => (cs.drop (i * t.cells)).take t.cells).getD i [] = (cs.drop (i * t.cells)).take t.cells := by simp [List.getD, hi]
    have e2 : List.getD (Ty.arr n t).dflt i t.dflt = t.dflt := by show List.getD (List.replicate n t.dflt) i t.dflt = _; simp [List.getD, hi]
    rw [e1, e2]
    refine ⟨?_, ih (h.2 i hi) m⟩
    simp only [List.length_take, List.length_drop, h.1]
    have : (i + 1) * t.cells ≤ n * t.cells := Nat.mul_le_mul_right _ hi
    rw [Nat.add_mul] at this; omega
  | ip t _ => intro cs h m; simp [zL] at h
  | rf t _ => intro cs h m; simp [zL] at h
  | pt => intro cs h m; simp [zL] at h
  | fn f c _ => intro cs h m; simp [zL] at h
  | tup c _ => intro cs h m; simp [zL] at h

theorem zV_sound {v : Value} {t : Ty} (h : zV v t = true) (m : M) : VR m v ⟨t, t.dflt⟩ := by
  unfold zV at h
  unfold VR
  cases ht : t.isAgg <;> simp only [ht] at h ⊢
  · exact zL_sound h m
  · split at h
    · exact ⟨_, rfl, zL_sound h m⟩
    · cases h

def kB : Option TypeDesc → TK → Bool
  | some (.int k), .int k' => decide (k = k')
  | some .bool, .bool => true
  | some .string, .str => true
  | some (.slice e), .slice e' => decide (e = e')
  | some (.array n e), .arr n' e' => decide (n = n') && decide (e = e')
  | some (.struct fields), .struct fs => decide (fields.toList.map (fun f => (f.offset, f.type)) = fs)
  | some (.pointer e), .ptr e' => decide (e = e')
  | some (.func _ _ _), .func => true
  | some (.map k e), .map k' e' => decide (k = k') && decide (e = e')
  | _, _ => false

theorem kB_sound {d : Option TypeDesc} {k : TK} (h : kB d k = true) : KOk d k := by
  unfold kB at h
  split at h <;> simp_all [KOk]

def aggB : Option TypeDesc → Option Bool
  | some (.struct _) => some true
  | some (.array _ _) => some true
  | some _ => some false
  | none => none

theorem aggB_sound {P : Program} {t : Nat} {b : Bool} (h : aggB (P.underlying t) = some b) (w : World) : (isAgg t).run P w = .ok b w := by
  unfold aggB at h
  split at h <;> simp_all [isAgg, run_underlying]

def sizeB (P : Program) (t n : Nat) : Bool := match P.info? t with | some i => decide (i.size = n) | none => false

theorem sizeB_sound {P : Program} {t n : Nat} (h : sizeB P t n = true) (w : World) : (sizeOf t).run P w = .ok n w := by
  unfold sizeB at h
  split at h
  · rename_i i hi; simp only [decide_eq_true_eq] at h; simp [sizeOf, typeInfo, hi, h]
  · cases h

def eqTB (P : Program) : Ty → (TypeId ⊕ (List Field × Nat)) → Bool
  | .int k, .inl t => kB (P.underlying t) (.int k)
  | .bool, .inl t => kB (P.underlying t) .bool
  | .str, .inl t => kB (P.underlying t) .str
  | .pair a b, .inl t => (match P.underlying t with | some (.struct _) => true | _ => false) && !P.stoodInHeld t &&
      (match (P.fieldsOf t).toList with
      | f :: fs => decide (f.name ≠ "_") && decide (f.offset = 0) && decide (aggB (P.underlying f.type) = some a.isAgg) && sizeB P f.type a.cells && eqTB P a (.inl f.type) && eqTB P b (.inr (fs, a.cells))
      | [] => false)
  | .pair a b, .inr (l, off) => match l with
      | f :: fs => decide (f.name ≠ "_") && decide (f.offset = off) && decide (aggB (P.underlying f.type) = some a.isAgg) && sizeB P f.type a.cells && eqTB P a (.inl f.type) && eqTB P b (.inr (fs, off + a.cells))
      | [] => false
  | .unit, .inr (l, _) => l.isEmpty
  | _, _ => false

theorem eqTB_sound {P : Program} : ∀ {t : Ty} {x : TypeId ⊕ (List Field × Nat)}, eqTB P t x = true → EqT P t x := by
  intro t
  induction t with
  | int k => intro x h; cases x <;> simp only [eqTB, Bool.false_eq_true] at h; have := kB_sound h; simpa [EqT, KOk] using this
  | bool => intro x h; cases x <;> simp only [eqTB, Bool.false_eq_true] at h; have := kB_sound h; simpa [EqT, KOk] using this
  | str => intro x h; cases x <;> simp only [eqTB, Bool.false_eq_true] at h; have := kB_sound h; simpa [EqT, KOk] using this
  | unit =>
    intro x h
    cases x with
    | inl t => simp [eqTB] at h
    | inr p => obtain ⟨l, off⟩ := p; simp only [eqTB] at h; simp only [EqT]; simpa using h
  | pair a b iha ihb =>
    intro x h
    cases x with
    | inl t =>
      simp only [eqTB, Bool.and_eq_true] at h
      obtain ⟨⟨h1, h2⟩, h3⟩ := h
      simp only [EqT]
      split at h1
      · rename_i fs hu
        refine ⟨by simp [Program.fieldsOf, hu], by simpa using h2, ?_⟩
        split at h3
        · rename_i f fs' hf
          simp only [Bool.and_eq_true, decide_eq_true_eq] at h3
          obtain ⟨⟨⟨⟨⟨g1, g2⟩, g3⟩, g4⟩, g5⟩, g6⟩ := h3
          exact ⟨f, fs', hf, g1, g2, aggB_sound g3, sizeB_sound g4, iha g5, ihb g6⟩
        · cases h3
      · cases h1
    | inr p =>
      obtain ⟨l, off⟩ := p
      cases l with
      | nil => simp [eqTB] at h
      | cons f fs =>
        simp only [eqTB, Bool.and_eq_true, decide_eq_true_eq] at h
        obtain ⟨⟨⟨⟨⟨g1, g2⟩, g3⟩, g4⟩, g5⟩, g6⟩ := h
        simp only [EqT]
        exact ⟨f, fs, rfl, g1, g2, aggB_sound g3, sizeB_sound g4, iha g5, ihb g6⟩
  | _ => intro x h; cases x <;> simp [eqTB] at h

def tiB (P : Program) (t : Nat) (i : TI) : Bool :=
  match i.kind with
  | .other => true
  | _ =>
    (match P.info? t with
    | some inf => decide (inf.size = i.size) && decide (inf.bytes = i.bytes) &&
      (match inf.zero with | some z => zV z i.zt && zV z i.dt && decide (z.cells.size = i.size) | none => false)
    | none => false) &&
    decide (aggB (P.underlying t) = some i.isAgg) && kB (P.underlying t) i.kind &&
    (match i.eq with | false => true | true => eqTB P i.dt (.inl t) && i.dt.isAgg && !P.eqGuardType P.depth t && decide (i.dt.deepness ≤ 10000))

theorem tiB_sound {P : Program} {t : Nat} {i : TI} (h : tiB P t i = true) (hk : i.kind ≠ .other) : TIok P t i := by
  unfold tiB at h
  split at h
  · rename_i e; exact absurd e hk
  · simp only [Bool.and_eq_true, decide_eq_true_eq] at h
    obtain ⟨⟨⟨h1, h2⟩, h3⟩, h4⟩ := h
    split at h1
    · rename_i inf hinf
      simp only [Bool.and_eq_true, decide_eq_true_eq] at h1
      obtain ⟨⟨g1, g2⟩, g3⟩ := h1
      split at g3
      · rename_i z hz
        simp only [Bool.and_eq_true, decide_eq_true_eq] at g3
        refine ⟨⟨inf, z, hinf, g1, g2, hz, fun m => zV_sound g3.1.1 m, fun m => zV_sound g3.1.2 m, g3.2⟩, aggB_sound h2, kB_sound h3, fun he => ?_⟩
        rw [he] at h4
        simp only [Bool.and_eq_true, decide_eq_true_eq, Bool.not_eq_true'] at h4
        exact ⟨eqTB_sound h4.1.1.1, h4.1.1.2, h4.1.2, h4.2⟩
      · cases g3
    · cases h1

def tabB (P : Program) : Nat → List TI → Bool
  | _, [] => true
  | n, i :: r => tiB P n i && tabB P (n + 1) r

theorem tabB_sound {P : Program} : ∀ {l : List TI} {n : Nat}, tabB P n l = true → ∀ j, (l.getD j default).kind ≠ .other → TIok P (n + j) (l.getD j default)
  | [], n, _, j, hk => by simp [List.getD] at hk; exact absurd rfl hk
  | i :: r, n, h, j, hk => by
    simp only [tabB, Bool.and_eq_true] at h
    cases j with
    | zero => exact tiB_sound h.1 hk
    | succ j =>
      have := tabB_sound h.2 j (by simpa [List.getD] using hk)
      rw [show n + (j + 1) = n + 1 + j by omega]
      simpa [List.getD] using this

theorem cxOk_of_tab {P : Program} {cx : Ctx} (h : tabB P 0 cx.types = true) : CxOk P cx := fun t ht => by
  have := tabB_sound h t ht
  rw [Nat.zero_add] at this
  exact this

end Go.Abs
