/- What a loop's head keeps. -/
import Derived.Test.YthinfcjijphooaaAbsN
namespace Go.Abs
set_option linter.unusedVariables false
set_option linter.unusedSimpArgs false
open Go

/-! #### What is reached -/

theorem reach_spec {H : List Obj} : ∀ {k : Nat} {todo seen s : List Nat}, reach H k todo seen = some s → seen.Nodup →
    s.Nodup ∧ (∀ i ∈ seen, i ∈ s) ∧ (∀ i ∈ todo, i ∈ s) ∧ ∀ i ∈ s, i ∈ seen ∨ ∃ l, idsO (H.getD i .none) = some l ∧ ∀ j ∈ l, j ∈ s
  | k, [], seen, s, h, hn => by
    have : reach H k [] seen = some seen := by cases k <;> rfl
    rw [this] at h; simp only [Option.some.injEq] at h; subst h
    exact ⟨hn, fun _ h => h, by simp, fun i hi => .inl hi⟩
  | 0, _ :: _, seen, s, h, _ => by simp [reach] at h
  | k + 1, i :: r, seen, s, h, hn => by
    simp only [reach] at h
    split at h
    · rename_i hc
      have hi : i ∈ seen := by simpa using hc
      obtain ⟨h1, h2, h3, h4⟩ := reach_spec h hn
      refine ⟨h1, h2, fun j hj => ?_, h4⟩
      rcases List.mem_cons.1 hj with e | e
      · subst e; exact h2 _ hi
      · exact h3 j e
    · rename_i hc
      have hi : i ∉ seen := by simpa using hc
      split at h
      · rename_i l hl
        obtain ⟨h1, h2, h3, h4⟩ := reach_spec h (by
          rw [List.nodup_append]
          exact ⟨hn, by simp, fun a ha b hb => by simp at hb; subst hb; exact fun e => hi (e ▸ ha)⟩)
        refine ⟨h1, fun j hj => h2 j (by simp [hj]), fun j hj => ?_, fun j hj => ?_⟩
        · rcases List.mem_cons.1 hj with e | e
          · subst e; exact h2 _ (by simp)
          · exact h3 j (by simp [e])
        · rcases h4 j hj with h | h
          · rcases List.mem_append.1 h with h | h
            · exact .inl h
            · simp at h; subst h
              exact .inr ⟨l, hl, fun x hx => h3 x (by simp [hx])⟩
          · exact .inr h
      · cases h

/-! #### Numbers anew -/

def renM (m : M) (s : List Nat) : M := ⟨fun k => m.ρ (s.getD k 0), s.map fun i => renO (renI s) (m.H.getD i .none), m.S, m.w⟩

theorem idx_get {s : List Nat} {i : Nat} (h : i ∈ s) : s.idxOf i < s.length ∧ s.getD (s.idxOf i) 0 = i := by
  have := List.idxOf_lt_length_of_mem h
  exact ⟨this, by simp [List.getD, this]⟩

theorem renM_get {m : M} {s : List Nat} {k : Nat} (h : k < s.length) : (renM m s).H.getD k .none = renO (renI s) (m.H.getD (s.getD k 0) .none) := by
  simp [renM, List.getD, h]

theorem renM_idx {m : M} {s : List Nat} {i : Nat} (h : i ∈ s) : (renM m s).H.getD (s.idxOf i) .none = renO (renI s) (m.H.getD i .none) ∧ (renM m s).ρ (s.idxOf i) = m.ρ i ∧ s.idxOf i < (renM m s).H.length := by
  obtain ⟨h1, h2⟩ := idx_get h
  refine ⟨by rw [renM_get h1, h2], by show m.ρ _ = _; rw [h2], by simpa [renM] using h1⟩

def Ren (m m' : M) (D : Nat → Prop) (φ : Nat → Nat) : Prop := ∀ i, D i → m'.H.getD (φ i) .none = renO φ (m.H.getD i .none) ∧ m'.ρ (φ i) = m.ρ i ∧ φ i < m'.H.length

theorem CR.ren {m m' : M} {D : Nat → Prop} {s : Nat → Nat} (hS : ∀ b, m.S b → m'.S b) (hcell : ∀ b o v, m.S b → m.w.cell? ⟨b, o, none⟩ = some v → m'.w.cell? ⟨b, o, none⟩ = some v) (hren : Ren m m' D s) : ∀ {b : Bool} {t : Ty} {cs : List Value} {x : t.El}, t.refOk = true → (∀ i ∈ idsV t x, D i) → CR m b t cs x → CR m' b t cs (renV s t x) := by
  have dp : ∀ {b : Bool} {t : Ty} {cs : List Value} {x : t.El}, t.deep = true → CR m b t cs x → CR m' b t cs x := fun hd h => CR.deep hS hcell hd h
  intro b t
  induction t generalizing b with
  | rf t =>
    intro cs x _ hi h
    have hx : D x.1 := hi x.1 (show x.1 ∈ [x.1] by simp)
    obtain ⟨g1, g2, g3⟩ := hren _ hx
    cases b
    · show CR m' false (.rf t) cs (s x.1, x.2)
      simp only [CR] at h ⊢
      obtain ⟨a, n, c, e, h1, h2, h3, h4⟩ := h
      refine ⟨a, n, c, e, h1, h2, g3, ?_⟩
      simp only [g1, g2]
      generalize m.H.getD x.1 .none = o at h4
      cases o with
      | none => trivial
      | free => exact h4.elim
      | box v fz => exact h4.elim
      | row t' l fz => exact h4
    · simp only [CR] at h
  | pt =>
    intro cs x _ hi h
    have hx : D x.1 := hi x.1 (show x.1 ∈ [x.1] by simp)
    obtain ⟨g1, g2, g3⟩ := hren _ hx
    cases b
    · show CR m' false .pt cs (s x.1, x.2)
      simp only [CR] at h ⊢
      obtain ⟨b, o, e, h3, h4⟩ := h
      refine ⟨b, o, e, g3, ?_⟩
      simp only [g1, g2]
      rcases h4 with h4 | ⟨h4, h5⟩
      · left; rw [h4]; rfl
      · generalize m.H.getD x.1 .none = ob at h4
        cases ob with
        | none => left; rfl
        | free => exact h4.elim
        | box v fz => right; exact ⟨h4, h5⟩
        | row t' l fz => right; exact ⟨h4, h5⟩
    · simp only [CR] at h
  | pair a c iha ihc =>
    intro cs x hr hi h
    have hr : (a.refOk && c.refOk) = true := hr
    rw [Bool.and_eq_true] at hr
    have hi : ∀ i, i ∈ idsV a x.1 ++ idsV c x.2 → D i := hi
    simp only [List.mem_append] at hi
    cases b
    · show CR m' false (.pair a c) cs (renV s a x.1, renV s c x.2)
      simp only [CR] at h ⊢
      obtain ⟨c1, c2, e, h1, h2, h3⟩ := h
      exact ⟨c1, c2, e, h1, iha hr.1 (fun i h => hi i (.inl h)) h2, ihc hr.2 (fun i h => hi i (.inr h)) h3⟩
    · show CR m' true (.pair a c) cs (renV s a x.1, renV s c x.2)
      simp only [CR] at h ⊢
      obtain ⟨v, r, e, h1, h2⟩ := h
      refine ⟨v, r, e, ?_, ihc hr.2 (fun i h => hi i (.inr h)) h2⟩
      cases ha : a.isAgg <;> simp only [ha] at h1 ⊢
      · exact iha hr.1 (fun i h => hi i (.inl h)) h1
      · obtain ⟨cs, e, h⟩ := h1
        exact ⟨cs, e, iha hr.1 (fun i h => hi i (.inl h)) h⟩
  | fn f c ih =>
    intro cs x hr hi h
    cases b
    · show CR m' false (.fn f c) cs (renV s c x)
      simp only [CR] at h ⊢
      obtain ⟨vs, e, h⟩ := h
      exact ⟨vs, e, ih hr hi h⟩
    · simp only [CR] at h
  | tup c ih =>
    intro cs x hr hi h
    cases b
    · show CR m' false (.tup c) cs (renV s c x)
      simp only [CR] at h ⊢
      obtain ⟨vs, e, h⟩ := h
      exact ⟨vs, e, ih hr hi h⟩
    · simp only [CR] at h
  | undef =>
    intro cs x _ _ h
    cases b
    · simpa only [CR] using h
    · simp only [CR] at h
  | unit => intro cs x hr _ h; exact dp rfl h
  | int k => intro cs x hr _ h; exact dp rfl h
  | bool => intro cs x hr _ h; exact dp rfl h
  | str => intro cs x hr _ h; exact dp rfl h
  | sl t _ => intro cs x hr _ h; exact dp hr h
  | arr n t _ => intro cs x hr _ h; exact dp hr h
  | ip t _ => intro cs x hr _ h; exact dp hr h
  | nilS => intro cs x hr _ h; exact dp rfl h
  | nilP => intro cs x hr _ h; exact dp rfl h
  | nilF => intro cs x hr _ h; exact dp rfl h
  | nilM => intro cs x hr _ h; exact dp rfl h

theorem renM_ren (m : M) (s : List Nat) : Ren m (renM m s) (· ∈ s) (renI s) := fun _ hi => renM_idx hi

theorem CR.renM {m : M} {s : List Nat} {b : Bool} {t : Ty} {cs : List Value} {x : t.El} (hr : t.refOk = true) (hi : ∀ i ∈ idsV t x, i ∈ s) (h : CR m b t cs x) : CR (renM m s) b t cs (renV (renI s) t x) :=
  CR.ren (m := m) (m' := Abs.renM m s) (fun _ h => h) (fun _ _ _ _ h => h) (renM_ren m s) hr hi h

theorem VR.ren {m : M} {s : List Nat} {v : Value} {u : V} (hr : u.t.refOk = true) (hi : ∀ i ∈ idsV u.t u.x, i ∈ s) (h : VR m v u) : VR (renM m s) v ⟨u.t, renV (renI s) u.t u.x⟩ := by
  unfold VR at *
  cases hu : u.t.isAgg <;> simp only [hu] at h ⊢
  · exact CR.renM hr hi h
  · obtain ⟨cs, e, h⟩ := h; exact ⟨cs, e, CR.renM hr hi h⟩

theorem live_ren {s : Nat → Nat} {o : Obj} (h : (renO s o).live) : o.live := by cases o <;> simp [renO, Obj.live] at h ⊢

theorem nodup_inj : ∀ {s : List Nat}, s.Nodup → ∀ {i j : Nat} (hi : i < s.length) (hj : j < s.length), s[i] = s[j] → i = j
  | a :: s, h, 0, 0, _, _, _ => rfl
  | a :: s, h, 0, j + 1, hi, hj, e => by
    simp only [List.getElem_cons_zero, List.getElem_cons_succ] at e
    exact absurd (e ▸ List.getElem_mem (by simpa using hj)) (List.nodup_cons.1 h).1
  | a :: s, h, i + 1, 0, hi, hj, e => by
    simp only [List.getElem_cons_zero, List.getElem_cons_succ] at e
    exact absurd (e ▸ List.getElem_mem (by simpa using hi)) (List.nodup_cons.1 h).1
  | a :: s, h, i + 1, j + 1, hi, hj, e => by
    simp only [List.getElem_cons_succ] at e
    rw [nodup_inj (List.nodup_cons.1 h).2 (by simpa using hi) (by simpa using hj) e]

theorem StR.ren {m : M} (hs : StR m) {s : List Nat} (hn : s.Nodup) (hc : ∀ i ∈ s, ∃ l, idsO (m.H.getD i .none) = some l ∧ ∀ j ∈ l, j ∈ s) (hb : ∀ i ∈ s, i < m.H.length) : StR (renM m s) := by
  have hlen : (renM m s).H.length = s.length := by simp [renM]
  have hmem : ∀ k, k < s.length → s.getD k 0 ∈ s := fun k hk => by simp [List.getD, hk]
  refine ⟨fun k hk => ?_, fun k k' hk hk' hne lk lk' b base cap b' base' cap' rk rk' => ?_, hs.bd⟩
  · rw [hlen] at hk
    rw [renM_get hk]
    have hi := hmem k hk
    have hok := hs.ok _ (hb _ hi)
    obtain ⟨l, hl, hls⟩ := hc _ hi
    have hρ : (renM m s).ρ k = m.ρ (s.getD k 0) := rfl
    generalize s.getD k 0 = i at *
    generalize m.H.getD i .none = o at *
    cases o with
    | none => trivial
    | free => simp [idsO] at hl
    | box v fz =>
      simp only [idsO] at hl
      split at hl
      · rename_i hrf
        simp only [Option.some.injEq] at hl; subst hl
        simp only [OR, renO] at hok ⊢
        obtain ⟨b, base, cap, cs, r1, r2, r3, r4, r5⟩ := hok
        exact ⟨b, base, cap, cs, by rw [hρ]; exact r1, r2, r3, CR.renM hrf hls r4, r5⟩
      · cases hl
    | row t l0 fz =>
      simp only [idsO] at hl
      split at hl
      · rename_i hd
        simp only [OR, renO] at hok ⊢
        rcases hok with ⟨h1, h2⟩ | ⟨b, base, cap, r1, r2, r3, r4, r5, r6⟩
        · exact .inl ⟨h1, by rw [hρ]; exact h2⟩
        · refine .inr ⟨b, base, cap, by rw [hρ]; exact r1, r2, r3, r4, fun k hk => ?_, r6⟩
          obtain ⟨ds, d1, d2, d3⟩ := r5 k hk
          exact ⟨ds, d1, d2, CR.deep (m := m) (m' := renM m s) (fun _ h => h) (fun _ _ _ _ h => h) hd d3⟩
      · cases hl
  · rw [hlen] at hk hk'
    rw [renM_get hk] at lk
    rw [renM_get hk'] at lk'
    refine hs.inj (s.getD k 0) (s.getD k' 0) (hb _ (hmem k hk)) (hb _ (hmem k' hk')) (fun e => hne ?_) (live_ren lk) (live_ren lk') _ _ _ _ _ _ rk rk'
    simp only [List.getD, List.getElem?_eq_getElem hk, List.getElem?_eq_getElem hk', Option.getD_some] at e
    exact nodup_inj hn hk hk' e

theorem skel_self (t : Ty) : Ty.skel t t = true := skel_refl t
theorem OStep.renr {s : Nat → Nat} {a b : Obj} (h : OStep a b) (hb : b ≠ .free) : OStep a (renO s b) := by
  cases a <;> cases b <;> simp_all [OStep, renO]
theorem OStep.renl {s : Nat → Nat} {a b : Obj} (h : OStep (renO s a) b) : OStep a b := by
  cases a <;> cases b <;> simp_all [OStep, renO]
theorem RStep.renl {s : Nat → Nat} {a : Obj} {r r' : Option (Nat × Nat × Nat)} (h : RStep (renO s a) r r') : RStep a r r' := by
  cases a <;> simp_all [RStep, renO]

/-- Renumbering keeps the first objects. -/
theorem Ext.ren {M0 m : M} (h : Ext M0 m) {s : List Nat} (hb : ∀ i ∈ s, i < m.H.length) (hfree : ∀ i ∈ s, m.H.getD i .none ≠ .free) (hl : M0.H.length ≤ s.length) (hp : ∀ i, i < M0.H.length → s.getD i 0 = i) : Ext M0 (renM m s) where
  fr := ⟨h.fr.1, fun b hb' ho => by
    obtain ⟨h1, h2, h3, h4⟩ := h.fr.2 b hb' ho
    refine ⟨fun ⟨k, k1, k2, base, cap, k3⟩ => h1 ?_, h2, h3, h4⟩
    have hk : k < s.length := by simpa [renM] using k1
    rw [renM_get hk] at k2
    exact ⟨s.getD k 0, hb _ (by simp [List.getD, hk]), live_ren k2, base, cap, k3⟩⟩
  S := h.S
  cell := h.cell
  len := by simpa [renM] using hl
  rho := fun i hi => by
    have hk : i < s.length := Nat.lt_of_lt_of_le hi hl
    rcases h.rho i hi with g | g | g
    · exact .inl g
    · right; left; rw [renM_get hk, hp i hi, g]; rfl
    · right; right; show RStep _ _ (m.ρ (s.getD i 0)); rw [hp i hi]; exact g
  obj := fun i hi => by
    have hk : i < s.length := Nat.lt_of_lt_of_le hi hl
    rw [renM_get hk, hp i hi]
    have hm : i ∈ s := by have := hp i hi; rw [← this]; simp [List.getD, hk]
    exact (h.obj i hi).renr (hfree i hm)
  kept := h.kept

theorem reach_prefix {H : List Obj} : ∀ {k : Nat} {a todo seen s : List Nat}, reach H k (a ++ todo) seen = some s → (seen ++ a).Nodup → ∃ t, s = seen ++ a ++ t
  | k, [], [], seen, s, h, hn => by
    have : reach H k [] seen = some seen := by cases k <;> rfl
    simp only [List.append_nil] at h
    rw [this] at h; simp only [Option.some.injEq] at h; subst h
    exact ⟨[], by simp⟩
  | 0, [], _ :: _, seen, s, h, _ => by simp [reach] at h
  | k + 1, [], i :: r, seen, s, h, hn => by
    simp only [List.nil_append, reach] at h
    split at h
    · exact reach_prefix (a := []) (todo := r) (by simpa using h) hn
    · rename_i hc
      have hi : i ∉ seen := by simpa using hc
      split at h
      · obtain ⟨t, ht⟩ := reach_prefix (a := []) (seen := seen ++ [i]) (by simpa using h) (by
          simp only [List.append_nil] at hn ⊢
          rw [List.nodup_append]
          exact ⟨hn, by simp, fun a ha b hb => by simp at hb; subst hb; exact fun e => hi (e ▸ ha)⟩)
        exact ⟨i :: t, by simpa using ht⟩
      · cases h
  | 0, _ :: _, _, seen, s, h, _ => by simp [reach] at h
  | k + 1, i :: a, todo, seen, s, h, hn => by
    simp only [List.cons_append, reach] at h
    have hi : i ∉ seen := fun hi => by
      rw [List.nodup_append] at hn
      exact hn.2.2 i hi i (by simp) rfl
    rw [show seen.contains i = false by simpa using hi] at h
    simp only at h
    split at h
    · obtain ⟨t, ht⟩ := reach_prefix (a := a) (seen := seen ++ [i]) (by simpa [List.append_assoc] using h) (by simpa [List.append_assoc] using hn)
      exact ⟨t, by simpa [List.append_assoc] using ht⟩
    · cases h

end Go.Abs
