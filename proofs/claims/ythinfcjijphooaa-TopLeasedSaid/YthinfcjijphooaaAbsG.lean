/- Stores, appends. -/
import Derived.Test.YthinfcjijphooaaAbsF
namespace Go.Abs
set_option linter.unusedVariables false
set_option linter.unusedSimpArgs false
open Go

section
variable {P : Program} {cx : Ctx} {o : Oper} {env : List V} {H : List Obj} {id : Nat} {K : Eff → Prop}

theorem run_storeVar_cells {w : World} {t b off n : Nat} {v : Value} {cs : List Value} (hz : ∀ w, (sizeOf t).run P w = .ok n w) (hn : v.cells.size = n) (h1 : ∀ x ∈ v.cells.toList, x.oneCell' = true)
    (hc : ∀ j, j < v.cells.size → (w.cell? ⟨b, off + j, none⟩).isSome = true) (hf : ∀ j, j < v.cells.size → w.frozen? ⟨b, off + j, none⟩ = false) :
    (storeVar t ⟨b, off, none⟩ v).run P w = .ok () (w.setCells b off v.cells.toList) := by
  have := run_storeCells_cells (P := P) b off v.cells.toList 0 w (by simpa using hc) (by simpa using hf) h1
  simp [storeVar, hz, hn]
  simpa using this

/-- What a store does to an object. -/
theorem setO_OR {m m1 : M} (hs : StR m) (hs1 : StR m1) (hle : m.le m1) (hw : m1.w = m.w) {H : List Obj} {u : V} {d : List Value} (hd : CR m false u.t d u.x) {i : Nat} {path : List Stp} {ob' : Obj} {z : List Nat} {b base cap : Nat}
    (hi : i < m.H.length) (hok : okO (m.H.getD i .none) path) (hρ : m.ρ i = some (b, base, cap)) (hset : setO H (m.H.getD i .none) path u = some (ob', z))
    (hrd : ∀ i ∈ z, Sim (m1.H.getD i .none) (H.getD i .none)) (hF : ∀ i ∈ z, ∀ b base cap, m1.ρ i = some (b, base, cap) → (m1.H.getD i .none).live → m1.S b) (hρ1 : m1.ρ i = m.ρ i) (hS1 : ¬ m1.S b) :
    OStep (m.H.getD i .none) ob' ∧ ob'.live ∧ ¬ m.S b ∧ (∀ j, j < d.length → (m.w.cell? ⟨b, base + pathOff path + j, none⟩).isSome = true ∧ m.w.frozen? ⟨b, base + pathOff path + j, none⟩ = false) ∧
      ∀ (m2 : M), m1.le m2 → m2.ρ i = m.ρ i → m2.w = m.w.setCells b (base + pathOff path) d → ¬ m2.S b → OR m2 i ob' := by
  have hob := hs.ok i hi
  generalize hG : m.H.getD i .none = ob at *
  cases ob with
  | none => simp [setO] at hset
  | free => simp [setO] at hset
  | box v fz =>
    cases fz with
    | true => simp [setO] at hset
    | false =>
      simp only [setO] at hset
      split at hset
      · rename_i q z' hq
        simp only [Option.some.injEq, Prod.mk.injEq] at hset
        obtain ⟨rfl, rfl⟩ := hset
        simp only [OR] at hob
        obtain ⟨b', base', cap', cs, e, hlt, hat, hc, hwr⟩ := hob
        rw [hρ] at e; simp only [Option.some.injEq, Prod.mk.injEq] at e; obtain ⟨rfl, rfl, rfl⟩ := e
        simp only [okO] at hok
        obtain ⟨g1, g2, g3⟩ := setV_CR hs1 hle hw hd (t := v.t) (x := v.x) hc hok hq hrd hF
        refine ⟨g2, trivial, hwr.1, fun j hj => ?_, fun m2 hle2 hρ2 hw2 hS2 => ?_⟩
        · obtain ⟨⟨x, hx⟩, hfz⟩ := hwr.2 (pathOff path + j) (by omega)
          rw [← Nat.add_assoc] at hx hfz
          exact ⟨by rw [hx]; rfl, hfz⟩
        · simp only [OR]
          refine ⟨b, base, cap, cs.take (pathOff path) ++ d ++ cs.drop (pathOff path + d.length), by rw [hρ2, hρ], by rw [hw2, size_setCells]; exact hlt, by rw [hw2]; exact at_setCells hat g3, g1.mono hle2, hS2, fun j hj => ?_⟩
          have hlen : (cs.take (pathOff path) ++ d ++ cs.drop (pathOff path + d.length)).length = cs.length := by
            simp only [List.length_append, List.length_take, List.length_drop]; omega
          rw [hlen] at hj
          obtain ⟨hx, hfz⟩ := hwr.2 j hj
          rw [hw2, World.frozen?_setCells]
          exact ⟨cell_setCells_some (fun k hk => by
            have := hwr.2 (pathOff path + k) (by omega)
            obtain ⟨⟨x, hx⟩, _⟩ := this
            rw [← Nat.add_assoc] at hx; rw [hx]; rfl) hx, hfz⟩
      · cases hset
  | row t l fz =>
    cases fz with
    | true => cases path <;> simp [setO] at hset
    | false =>
      simp only [OR] at hob
      rcases hob with ⟨_, hob⟩ | ⟨b', base', cap', e, hlt, hcap, hlim, hel, hwr⟩
      · rw [hρ] at hob; cases hob
      rw [hρ] at e; simp only [Option.some.injEq, Prod.mk.injEq] at e; obtain ⟨rfl, rfl, rfl⟩ := e
      have hcells : ∀ off, off + d.length ≤ cap * t.cells → ∀ j, j < d.length → (m.w.cell? ⟨b, base + off + j, none⟩).isSome = true ∧ m.w.frozen? ⟨b, base + off + j, none⟩ = false := by
        intro off ho j hj
        obtain ⟨⟨x, hx⟩, hfz⟩ := hwr.2 (off + j) (by omega)
        rw [← Nat.add_assoc] at hx hfz
        exact ⟨by rw [hx]; rfl, hfz⟩
      have hwr2 : ∀ off, off + d.length ≤ cap * t.cells → ∀ (m2 : M), m2.w = m.w.setCells b (base + off) d → ¬ m2.S b → WR m2 false b base (cap * t.cells) := by
        intro off ho m2 hw2 hS2
        refine ⟨hS2, fun j hj => ?_⟩
        obtain ⟨hx, hfz⟩ := hwr.2 j hj
        rw [hw2, World.frozen?_setCells]
        exact ⟨cell_setCells_some (fun k hk => (hcells off ho k hk).1) hx, hfz⟩
      cases path with
      | nil => simp [setO] at hset
      | cons stp r =>
        cases stp with
        | fld _ _ => simp [setO] at hset
        | idx sz k =>
          simp only [setO] at hset
          split at hset
          · rename_i hsz
            simp only [okO] at hok
            obtain ⟨hsz', hk, hokr⟩ := hok
            split at hset
            · rename_i q z' hq
              split at hset
              · rename_i y z2 hy
                simp only [Option.some.injEq, Prod.mk.injEq] at hset
                obtain ⟨rfl, rfl⟩ := hset
                obtain ⟨ds, d1, d2, d3⟩ := hel k hk
                obtain ⟨g1, g2, g3⟩ := setV_CR hs1 hle hw hd (t := t) d3 hokr hq (fun j hj => hrd j (by simp [hj])) (fun j hj => hF j (by simp [hj]))
                have hy' := deepAs_CR hs1 (fun _ h => h) rfl (m1 := m1) g1 hy (fun j hj => hrd j (by simp [hj])) (fun j hj => hF j (by simp [hj]))
                have hoff : pathOff (.idx sz k :: r) = k * t.cells + pathOff r := by simp [pathOff, hsz']
                have hfit : k * t.cells + pathOff r + d.length ≤ cap * t.cells := by
                  have : (k + 1) * t.cells ≤ cap * t.cells := Nat.mul_le_mul_right _ (by omega)
                  rw [Nat.add_mul] at this; omega
                rw [hoff]
                refine ⟨⟨rfl, by simp⟩, trivial, hwr.1, hcells _ hfit, fun m2 hle2 hρ2 hw2 hS2 => ?_⟩
                simp only [OR]
                right
                refine ⟨b, base, cap, by rw [hρ2, hρ], by rw [hw2, size_setCells]; exact hlt, by simpa using hcap, by simpa using hlim, fun k' hk' => ?_, hwr2 _ hfit m2 hw2 hS2⟩
                simp only [List.length_set] at hk'
                have hset : (l.set k y).getD k' t.dflt = if k' = k then y else l.getD k' t.dflt := by
                  simp only [List.getD_eq_getElem?_getD, List.getElem?_set]
                  by_cases h : k = k'
                  · subst h; simp [hk]
                  · rw [if_neg h, if_neg (Ne.symm h)]
                rw [hset]
                by_cases hkk : k' = k
                · subst hkk
                  rw [if_pos rfl]
                  refine ⟨_, ?_, ?_, hy'.mono hle2⟩
                  · simp only [List.length_append, List.length_take, List.length_drop]; omega
                  · rw [hw2, ← Nat.add_assoc]; exact at_setCells d2 g3
                · rw [if_neg hkk]
                  obtain ⟨ds', q1, q2, q3⟩ := hel k' hk'
                  refine ⟨ds', q1, fun j v hj => ?_, (q3.mono hle).mono hle2⟩
                  have hjl : j < t.cells := by
                    rw [← q1]
                    rcases Nat.lt_or_ge j ds'.length with h | h
                    · exact h
                    · rw [List.getElem?_eq_none h] at hj; cases hj
                  rw [hw2, World.cell?_setCells_out _ _ _ _ _ (fun _ _ => by
                    simp only
                    rcases Nat.lt_or_ge k' k with h | h
                    · left
                      have : (k' + 1) * t.cells ≤ k * t.cells := Nat.mul_le_mul_right _ (by omega)
                      rw [Nat.add_mul] at this; omega
                    · right
                      have : (k + 1) * t.cells ≤ k' * t.cells := Nat.mul_le_mul_right _ (by omega)
                      rw [Nat.add_mul] at this; omega)]
                  exact q2 j v hj
              · cases hset
            · cases hset
          · cases hset

theorem ups_other {H0 : List Obj} : ∀ {z : List Nat} {G : List Obj} {i : Nat}, i ∉ z → (ups G (frzAll H0 z)).getD i .none = G.getD i .none
  | [], _, _, _ => rfl
  | j :: z, G, i, h => by
    show (ups (G.set j _) (frzAll H0 z)).getD i .none = _
    rw [ups_other (fun hh => h (by simp [hh]))]
    simp only [List.getD_eq_getElem?_getD]
    rw [List.getElem?_set_ne (fun hh => h (by simp [hh]))]

theorem setO_unfrozen {ob ob' : Obj} {path : List Stp} {u : V} {z : List Nat} (h : setO H ob path u = some (ob', z)) : (∃ v, ob = .box v false) ∨ ∃ t l, ob = .row t l false := by
  cases ob with
  | none => simp [setO] at h
  | free => simp [setO] at h
  | box v fz => cases fz with
    | true => simp [setO] at h
    | false => exact .inl ⟨v, rfl⟩
  | row t l fz => cases fz with
    | true => cases path <;> simp [setO] at h
    | false => exact .inr ⟨t, l, rfl⟩

theorem fine_store (hcx : CxOk P cx) {t : TypeId} {x y : Operand} (ho : o.op = .store t x y) (h : evC cx env H id (.store t x y) K) : Fine P o env H id K := by
  simp only [evC] at h
  split at h
  · rename_i i path v hx hy
    obtain ⟨hf, h⟩ := gd_true h
    obtain ⟨p, hp, h⟩ := optK_some h
    obtain ⟨ob', z⟩ := p
    obtain ⟨hiz, h⟩ := gd_true h
    have hiz : i ∉ z := by simpa using hiz
    obtain ⟨g1, g2, g3⟩ := fits_run (P := P) hcx hf
    refine ⟨_, h, fun m a hs hon hlen hrd hfree => ?_⟩
    have hvx := hon x (by simp [ho, Op.operands]) _ hx
    have hvy := hon y (by simp [ho, Op.operands]) _ hy
    obtain ⟨b, off, e, hi, hor⟩ := VR.pt hvx
    simp only at hi hor
    obtain ⟨hi0, hri⟩ := hrd i (by simp)
    have hrdz : ∀ j ∈ z, j < H.length ∧ m.H.getD j .none = H.getD j .none := fun j hj => hrd j (by simp [hj])
    rw [← hri] at hp
    rcases hor with hor | ⟨hok, base, cap, hρ, rfl⟩
    · rw [hor] at hp; simp [setO] at hp
    obtain ⟨S', s1, s2, s3, s4⟩ := hs.freezesL hlen (z := z) hrdz
    have hi1 : (ups m.H (frzAll H z)).getD i .none = m.H.getD i .none := ups_other hiz
    have hl1 : (ups m.H (frzAll H z)).length = m.H.length := ups_length _ _
    have hS1 : ¬ S' b := by
      have := s2.ok i (by show i < (ups m.H (frzAll H z)).length; rw [hl1]; exact hi)
      simp only [hi1] at this
      rcases setO_unfrozen hp with ⟨v', hv'⟩ | ⟨t', l', hv'⟩
      · rw [hv'] at this; simp only [OR] at this
        obtain ⟨b', base', cap', cs, e', _, _, _, hw⟩ := this
        rw [hρ] at e'; simp only [Option.some.injEq, Prod.mk.injEq] at e'; obtain ⟨rfl, _, _⟩ := e'
        exact hw.1
      · rw [hv'] at this; simp only [OR] at this
        rcases this with ⟨_, h'⟩ | ⟨b', base', cap', e', _, _, _, _, hw⟩
        · rw [hρ] at h'; cases h'
        · rw [hρ] at e'; simp only [Option.some.injEq, Prod.mk.injEq] at e'; obtain ⟨rfl, _, _⟩ := e'
          exact hw.1
    have hd := VR_cells hvy g3
    obtain ⟨k1, k2, k3, k4, k5⟩ := setO_OR hs s2 s3 rfl hd hi hok hρ hp (fun j hj => by
        right
        show (ups m.H (frzAll H z)).getD j .none = _
        exact ups_frz hlen (by rw [hlen]; exact (hrdz j hj).1) (.inl hj)) (fun j hj b' base' cap' hb' hl' => by
        refine s4 j hj b' base' cap' hb' ?_
        have : (ups m.H (frzAll H z)).getD j .none = frz (H.getD j .none) := ups_frz hlen (by rw [hlen]; exact (hrdz j hj).1) (.inl hj)
        simp only [this] at hl'
        rw [(hrdz j hj).2]; exact live_frz hl') rfl hS1
    have hll : (m.H.getD i .none).live := by
      rcases setO_unfrozen hp with ⟨v', hv'⟩ | ⟨t', l', hv'⟩ <;> rw [hv'] <;> trivial
    obtain ⟨q1, q2⟩ := s2.write (i := i) (b := b) (base := base) (cap := cap) (by show i < (ups m.H (frzAll H z)).length; rw [hl1]; exact hi) (by simp only [hi1]; exact hll) hρ hS1
      (w' := m.w.setCells b (base + pathOff path) (a.eval y).cells.toList) (size_setCells _ _ _ _)
      (fun b' o' hb' => World.cell?_setCells_out _ _ _ _ _ (fun h1 _ => absurd h1 hb')) (fun b' o' => World.frozen?_setCells _ _ _ _ _) (kept_setCells _ _ _ _) (ob := ob') (by simp only [hi1]; exact k1) k2
      (fun hle2 => k5 _ hle2 rfl rfl hS1)
    refine Gives.skip (w' := m.w.setCells b (base + pathOff path) (a.eval y).cells.toList) ?_ ⟨_, rfl, ?_, q1, s3.trans q2, VR.skip⟩
    · have hn : (a.eval y).cells.size = v.t.cells := by have := hd.len; simpa using this
      have := run_storeVar_cells (P := P) (w := m.w) (b := b) (off := base + pathOff path) (cs := []) g2 hn (mem_oneCell hd g3) (fun j hj => (k4 j (by simpa using hj)).1) (fun j hj => (k4 j (by simpa using hj)).2)
      simp only [execOp, ho, Go.Instr.storeAt, Go.Instr.sureAddr, e]
      simp [this]
    · rw [ups_append]; rfl
  · exact h.elim

end
end Go.Abs
