/- What is asked of the table of types; the operators. -/
import Derived.Test.YthinfcjijphooaaAbs3
namespace Go.Abs
set_option linter.unusedVariables false
set_option linter.unusedSimpArgs false
open Go

def KOk (d : Option TypeDesc) : TK → Prop
  | .int k => d = some (.int k)
  | .bool => d = some .bool
  | .str => d = some .string
  | .slice e => d = some (.slice e)
  | .arr n e => d = some (.array n e)
  | .struct fs => ∃ fields, d = some (.struct fields) ∧ fields.toList.map (fun f => (f.offset, f.type)) = fs
  | .ptr e => d = some (.pointer e)
  | .func => ∃ a b c, d = some (.func a b c)
  | .map k e => d = some (.map k e)
  | .other => True

/-- Type 't' ('.inl'), or fields from an offset on ('.inr'), are held against one another as 'ty' says. -/
def EqT (P : Program) : Ty → (TypeId ⊕ (List Field × Nat)) → Prop
  | .int k, .inl t => P.underlying t = some (.int k)
  | .bool, .inl t => P.underlying t = some .bool
  | .str, .inl t => P.underlying t = some .string
  | .pair a b, .inl t => P.underlying t = some (.struct (P.fieldsOf t)) ∧ P.stoodInHeld t = false ∧
      ∃ f fs, (P.fieldsOf t).toList = f :: fs ∧ f.name ≠ "_" ∧ f.offset = 0 ∧ (∀ w, (isAgg f.type).run P w = .ok a.isAgg w) ∧ (∀ w, (sizeOf f.type).run P w = .ok a.cells w) ∧
        EqT P a (.inl f.type) ∧ EqT P b (.inr (fs, a.cells))
  | .pair a b, .inr (l, off) => ∃ f fs, l = f :: fs ∧ f.name ≠ "_" ∧ f.offset = off ∧ (∀ w, (isAgg f.type).run P w = .ok a.isAgg w) ∧ (∀ w, (sizeOf f.type).run P w = .ok a.cells w) ∧
        EqT P a (.inl f.type) ∧ EqT P b (.inr (fs, off + a.cells))
  | .unit, .inr (l, _) => l = []
  | _, _ => False

def Ty.deepness : Ty → Nat
  | .pair a b => max (a.deepness + 1) b.deepness
  | _ => 1

structure TIok (P : Program) (t : Nat) (i : TI) : Prop where
  inf : ∃ inf z, P.info? t = some inf ∧ inf.size = i.size ∧ inf.bytes = i.bytes ∧ inf.zero = some z ∧ (∀ m, VR m z i.zero) ∧ (∀ m, VR m z ⟨i.dt, i.dt.dflt⟩) ∧ z.cells.size = i.size
  agg : ∀ w, (isAgg t).run P w = .ok i.isAgg w
  kind : KOk (P.underlying t) i.kind
  eq : i.eq = true → EqT P i.dt (.inl t) ∧ i.dt.isAgg = true ∧ P.eqGuardType P.depth t = false ∧ i.dt.deepness ≤ 10000

theorem TIok.size {P : Program} {t : Nat} {i : TI} (h : TIok P t i) (w : World) : (sizeOf t).run P w = .ok i.size w := by
  obtain ⟨inf, z, h1, h2, _⟩ := h.inf
  simp [sizeOf, typeInfo, h1, h2]

def CxOk (P : Program) (cx : Ctx) : Prop := ∀ t, (cx.ty t).kind ≠ .other → TIok P t (cx.ty t)

/-! #### Equality -/

theorem eq_beq_int (k : IntKind) (a b : Int) : eqEl (.int k) a b = (a == b) := rfl

theorem run_part {P : Program} {w : World} {t off n : Nat} {agg : Bool} (h1 : ∀ w, (isAgg t).run P w = .ok agg w) (h2 : ∀ w, (sizeOf t).run P w = .ok n w) (cs : Array Value)
    (hn : agg = false → n = 1) (hl : off + n ≤ cs.size) :
    ∃ v, (part t cs off).run P w = .ok v w ∧ (agg = true → v = .agg (cs.extract off (off + n))) ∧ (agg = false → cs[off]? = some v) := by
  cases agg with
  | true => exact ⟨_, by simp [part, h1, h2], (fun _ => rfl), (fun h => by cases h)⟩
  | false =>
    have : off < cs.size := by have := hn rfl; omega
    exact ⟨cs[off], by simp [part, h1, this], (fun h => by cases h), (fun _ => by simp [this])⟩

theorem isAgg_cells {t : Ty} (h : t.isAgg = false) : t.cells = 1 := by cases t <;> simp_all [Ty.isAgg, Ty.cells]

/-- A part of a row of cells that is told as one. -/
theorem VR_of_parts {m : M} {t : Ty} {cs : List Value} {x : t.El} (h : CR m false t cs x) {v : Value}
    (hv : (t.isAgg = true → v = .agg cs.toArray) ∧ (t.isAgg = false → cs = [v])) : VR m v ⟨t, x⟩ := by
  unfold Abs.VR
  cases ht : t.isAgg <;> simp only []
  · have := hv.2 ht; subst this; exact h
  · exact ⟨_, hv.1 ht, by simpa using h⟩

theorem CR_of_VR {m : M} {t : Ty} {v : Value} {x : t.El} (h : VR m v ⟨t, x⟩) (hm : t ≠ .undef) : CR m false t v.cells.toList x := by
  unfold Abs.VR at h
  cases ht : t.isAgg <;> simp only [ht] at h
  · have : v.cells = #[v] := by
      cases v <;> simp [Value.cells]
      cases t <;> simp_all [Abs.CR, Ty.isAgg]
    rw [this]; exact h
  · obtain ⟨cs, rfl, h⟩ := h; simpa [Value.cells] using h

theorem VR_of_CR {m : M} {t : Ty} {v : Value} {x : t.El} (h : CR m false t v.cells.toList x) (ha : (∃ cs, v = .agg cs) ↔ t.isAgg = true) : VR m v ⟨t, x⟩ := by
  unfold Abs.VR
  cases ht : t.isAgg <;> simp only []
  · have : v.cells = #[v] := by
      cases v <;> simp [Value.cells]
      rw [ht] at ha; simp at ha
    rw [this] at h; exact h
  · obtain ⟨cs, rfl⟩ := ha.2 ht
    exact ⟨cs, rfl, by simpa [Value.cells] using h⟩

mutual
theorem eqT_run {P : Program} {w : World} {m : M} : ∀ {ty : Ty} {t : TypeId} {d : Nat} {u v : Value} {x y : ty.El}, EqT P ty (.inl t) → ty.deepness ≤ d →
    VR m u ⟨ty, x⟩ → VR m v ⟨ty, y⟩ → (Go.Op.equalIn d t u v).run P w = .ok (eqEl ty x y) w
  | .int k, t, d, u, v, x, y, h, hd, hu, hv => by
    obtain ⟨rfl, _⟩ := VR.int hu; obtain ⟨rfl, _⟩ := VR.int hv
    simp only [EqT] at h
    obtain ⟨d, rfl⟩ : ∃ e, d = e + 1 := ⟨d - 1, by simp [Ty.deepness] at hd; omega⟩
    rw [run_equalIn_int w d t k k x y h]; rfl
  | .bool, t, d, u, v, x, y, h, hd, hu, hv => by
    obtain rfl := VR.bool hu; obtain rfl := VR.bool hv
    simp only [EqT] at h
    obtain ⟨d, rfl⟩ : ∃ e, d = e + 1 := ⟨d - 1, by simp [Ty.deepness] at hd; omega⟩
    rw [run_equalIn_bool' w d t x y h]; rfl
  | .str, t, d, u, v, x, y, h, hd, hu, hv => by
    obtain ⟨a, rfl, rfl, _⟩ := VR.str hu; obtain ⟨b, rfl, rfl, _⟩ := VR.str hv
    simp only [EqT] at h
    obtain ⟨d, rfl⟩ : ∃ e, d = e + 1 := ⟨d - 1, by simp [Ty.deepness] at hd; omega⟩
    rw [run_equalIn_string w d t a b h, ← eq_bytes]; rfl
  | .pair a b, t, d, u, v, x, y, h, hd, hu, hv => by
    simp only [EqT] at h
    obtain ⟨hs, hp, f, fs, hf, hn, ho, hag, hsz, ha, hb⟩ := h
    obtain ⟨d, rfl⟩ : ∃ e, d = e + 1 := ⟨d - 1, by simp [Ty.deepness] at hd; omega⟩
    simp only [VR, Ty.isAgg, CR] at hu hv
    obtain ⟨cs, rfl, c1, c2, e1, l1, r1, r2⟩ := hu
    obtain ⟨ds, rfl, d1, d2, e2, l2, s1, s2⟩ := hv
    rw [run_equalIn_agg w d t cs ds hs hp, hf]
    exact eqF_run (ty := .pair a b) (l := f :: fs) (off := 0) (p := []) (q := []) (by simp only [EqT]; exact ⟨f, fs, rfl, hn, ho, hag, hsz, ha, by simpa using hb⟩) (by simp only [Ty.deepness] at *; omega)
      (by simp only [CR]; exact ⟨c1, c2, e1, l1, r1, r2⟩) (by simp only [CR]; exact ⟨d1, d2, e2, l2, s1, s2⟩) (by simp) (by simp) (by simp) (by simp)
  | .unit, _, _, _, _, _, _, h, _, _, _ | .sl _, _, _, _, _, _, _, h, _, _, _ | .arr _ _, _, _, _, _, _, _, h, _, _, _ | .ip _, _, _, _, _, _, _, h, _, _, _ | .rf _, _, _, _, _, _, _, h, _, _, _ | .pt, _, _, _, _, _, _, h, _, _, _
  | .nilS, _, _, _, _, _, _, h, _, _, _ | .nilP, _, _, _, _, _, _, h, _, _, _ | .nilF, _, _, _, _, _, _, h, _, _, _ | .nilM, _, _, _, _, _, _, h, _, _, _ | .fn _ _, _, _, _, _, _, _, h, _, _, _ | .tup _, _, _, _, _, _, _, h, _, _, _ | .undef, _, _, _, _, _, _, h, _, _, _ => by
    simp only [EqT] at h
theorem eqF_run {P : Program} {w : World} {m : M} : ∀ {ty : Ty} {l : List Field} {off d : Nat} {cs ds : Array Value} {p q c e : List Value} {x y : ty.El}, EqT P ty (.inr (l, off)) → ty.deepness ≤ d + 1 →
    CR m false ty c x → CR m false ty e y → cs.toList = p ++ c → ds.toList = q ++ e → p.length = off → q.length = off →
    (Go.Op.eqFields d cs ds l).run P w = .ok (eqEl ty x y) w
  | .unit, l, off, d, cs, ds, p, q, c, e, x, y, h, hd, hc, he, h1, h2, h3, h4 => by
    simp only [EqT] at h; subst h; simp [Go.Op.eqFields, eqEl]
  | .pair a b, l, off, d, cs, ds, p, q, c, e, x, y, h, hd, hc, he, h1, h2, h3, h4 => by
    simp only [EqT] at h
    obtain ⟨f, fs, rfl, hn, rfl, hag, hsz, ha, hb⟩ := h
    simp only [CR] at hc he
    obtain ⟨c1, c2, rfl, l1, r1, r2⟩ := hc
    obtain ⟨e1, e2, rfl, l2, s1, s2⟩ := he
    have hlen : cs.size = p.length + (a.cells + c2.length) := by rw [← Array.length_toList, h1]; simp [l1]
    have hlen2 : ds.size = q.length + (a.cells + e2.length) := by rw [← Array.length_toList, h2]; simp [l2]
    obtain ⟨v1, g1, k1⟩ := run_part (w := w) (off := f.offset) hag hsz cs (fun h => isAgg_cells h) (by omega)
    obtain ⟨v2, g2, k2⟩ := run_part (w := w) (off := f.offset) hag hsz ds (fun h => isAgg_cells h) (by omega)
    have w1 : VR m v1 ⟨a, x.1⟩ := VR_of_parts r1 (by
      refine ⟨fun hA => ?_, fun hA => ?_⟩
      · rw [k1.1 hA]; congr 1; apply Array.toList_inj.1; simp [h1, ← h3, ← l1, List.take_append_of_le_length]
      · have := isAgg_cells hA
        have kk := k1.2 hA
        obtain ⟨z, rfl⟩ : ∃ z, c1 = [z] := by
          match c1, (l1.trans this) with | [z], _ => exact ⟨z, rfl⟩
        rw [← Array.getElem?_toList, h1, ← h3] at kk; simpa using kk)
    have w2 : VR m v2 ⟨a, y.1⟩ := VR_of_parts s1 (by
      refine ⟨fun hA => ?_, fun hA => ?_⟩
      · rw [k2.1 hA]; congr 1; apply Array.toList_inj.1; simp [h2, ← h4, ← l2, List.take_append_of_le_length]
      · have := isAgg_cells hA
        have kk := k2.2 hA
        obtain ⟨z, rfl⟩ : ∃ z, e1 = [z] := by
          match e1, (l2.trans this) with | [z], _ => exact ⟨z, rfl⟩
        rw [← Array.getElem?_toList, h2, ← h4] at kk; simpa using kk)
    have hE := eqT_run (P := P) (w := w) (t := f.type) (d := d) ha (by simp only [Ty.deepness] at hd; omega) w1 w2
    simp only [Go.Op.eqFields, ne_eq, hn, not_false_eq_true, if_true, Sem.run_bind, g1, g2, Result.andThen_ok, hE, eqEl]
    cases hq : eqEl a x.1 y.1
    · simp
    · simp only [Bool.not_true, Bool.false_eq_true, if_false, Bool.true_and]
      exact eqF_run (p := p ++ c1) (q := q ++ e1) hb (by simp only [Ty.deepness] at hd; omega) r2 s2 (by simp [h1]) (by simp [h2]) (by simp [h3, l1]) (by simp [h4, l2])
  | .int _, _, _, _, _, _, _, _, _, _, _, _, h, _, _, _, _, _, _, _ | .bool, _, _, _, _, _, _, _, _, _, _, _, h, _, _, _, _, _, _, _ | .str, _, _, _, _, _, _, _, _, _, _, _, h, _, _, _, _, _, _, _
  | .sl _, _, _, _, _, _, _, _, _, _, _, _, h, _, _, _, _, _, _, _ | .arr _ _, _, _, _, _, _, _, _, _, _, _, _, h, _, _, _, _, _, _, _ | .ip _, _, _, _, _, _, _, _, _, _, _, _, h, _, _, _, _, _, _, _
  | .rf _, _, _, _, _, _, _, _, _, _, _, _, h, _, _, _, _, _, _, _ | .pt, _, _, _, _, _, _, _, _, _, _, _, h, _, _, _, _, _, _, _ | .nilS, _, _, _, _, _, _, _, _, _, _, _, h, _, _, _, _, _, _, _
  | .nilP, _, _, _, _, _, _, _, _, _, _, _, h, _, _, _, _, _, _, _ | .nilF, _, _, _, _, _, _, _, _, _, _, _, h, _, _, _, _, _, _, _ | .nilM, _, _, _, _, _, _, _, _, _, _, _, h, _, _, _, _, _, _, _
  | .fn _ _, _, _, _, _, _, _, _, _, _, _, _, h, _, _, _, _, _, _, _ | .tup _, _, _, _, _, _, _, _, _, _, _, _, h, _, _, _, _, _, _, _ | .undef, _, _, _, _, _, _, _, _, _, _, _, h, _, _, _, _, _, _, _ => by
    simp only [EqT] at h
end

end Go.Abs
