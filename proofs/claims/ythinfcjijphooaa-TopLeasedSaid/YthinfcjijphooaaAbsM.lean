/- Array variables that are sliced: they become rows. -/
import Derived.Test.YthinfcjijphooaaAbsL
namespace Go.Abs
set_option linter.unusedVariables false
set_option linter.unusedSimpArgs false
open Go

theorem StR.retag {m : M} (hs : StR m) {i n : Nat} (hi : i < m.H.length) {u : Ty} {l : List u.El} (ho : m.H.getD i .none = .box ⟨.arr n u, l⟩ false) (hn : n ≤ LIM) :
    ∃ b base cap, m.ρ i = some (b, base, cap) ∧ l.length = n ∧
    StR ⟨fun j => if j = i then some (b, base, n) else m.ρ j, m.H.set i (.row u l false), m.S, m.w⟩ ∧ m.le ⟨fun j => if j = i then some (b, base, n) else m.ρ j, m.H.set i (.row u l false), m.S, m.w⟩ := by
  have hok := hs.ok i hi
  rw [ho] at hok
  simp only [OR] at hok
  obtain ⟨b, base, cap, cs, r1, r2, r3, r4, r5⟩ := hok
  simp only [CR] at r4
  obtain ⟨hl, css, rfl, hc, he⟩ := r4
  have hlive : (m.H.getD i .none).live := by rw [ho]; trivial
  have hfl : css.flatten.length = n * u.cells := by rw [flatten_len (k := u.cells) (fun j hj => (he j (by omega)).1), hc]
  refine ⟨b, base, cap, r1, hl, ?_⟩
  have hg : ∀ j, (m.H.set i (.row u l false)).getD j .none = if j = i then .row u l false else m.H.getD j .none := fun j => getD_set hi
  have hle : m.le ⟨fun j => if j = i then some (b, base, n) else m.ρ j, m.H.set i (.row u l false), m.S, m.w⟩ := by
    refine ⟨⟨Nat.le_refl _, fun b' hb' hno => ⟨fun ⟨j, j1, j2, base', cap', j3⟩ => ?_, fun _ => rfl, fun _ => rfl, fun h => h⟩⟩, fun _ h => h, fun _ _ _ _ hv => hv, by simp, fun j hj => ?_, fun j hj => ?_, ⟨⟨rfl, rfl, rfl⟩, fun _ _ _ => rfl⟩⟩
    · simp only [List.length_set] at j1
      simp only at j3
      by_cases h : j = i
      · rw [if_pos h] at j3; simp only [Option.some.injEq, Prod.mk.injEq] at j3
        exact hno (j3.1 ▸ ⟨i, hi, hlive, base, cap, r1⟩)
      · simp only [hg] at j2
        rw [if_neg h] at j2 j3; exact hno ⟨j, j1, j2, base', cap', j3⟩
    · right; right
      by_cases h : j = i
      · subst h; simp only [if_pos, ho, RStep]; exact .inr ⟨b, base, cap, n, r1, rfl⟩
      · simp only [h, if_false]; exact RStep.refl _ _
    · show OStep _ ((m.H.set i (.row u l false)).getD j .none)
      rw [hg]
      split
      · rename_i h; subst h; rw [ho]; simp only [OStep]; rw [hl]
      · exact OStep.refl _
  refine ⟨⟨fun j hj => ?_, fun j k hj hk hjk lj lk b1 base1 cap1 b2 base2 cap2 rj rk => ?_, hs.bd⟩, hle⟩
  · simp only [List.length_set] at hj
    show OR _ j ((m.H.set i (.row u l false)).getD j .none)
    rw [hg]
    split
    · rename_i h; subst h
      simp only [OR]
      right
      refine ⟨b, base, n, by simp, r2, by omega, by omega, fun k hk => ?_, ?_⟩
      · obtain ⟨e1, e2⟩ := he k (by omega)
        exact ⟨css.getD k [], e1, getD_flat r3 (by omega) (fun j hj => (he j (by omega)).1), e2.mono hle⟩
      · rw [hfl] at r5; exact r5
    · rename_i h
      by_cases hlj : (m.H.getD j .none).live
      · exact OR.go hle (by simp [h]) (Nat.le_refl _) (fun b' base' cap' hr _ => ⟨fun o => rfl, fun o => rfl, fun h => h⟩) (hs.ok j hj)
      · have := hs.ok j hj
        generalize m.H.getD j .none = oj at *
        cases oj <;> simp [Obj.live] at hlj <;> trivial
  · simp only [List.length_set] at hj hk
    simp only [hg] at lj lk
    simp only at rj rk
    have key : ∀ x, x < m.H.length → (if x = i then Obj.row u l false else m.H.getD x .none).live → ∀ b' base' cap', (if x = i then some (b, base, n) else m.ρ x) = some (b', base', cap') → (m.H.getD x .none).live ∧ ∃ base cap, m.ρ x = some (b', base, cap) := by
      intro x hx lx b' base' cap' rx
      by_cases h : x = i
      · rw [if_pos h] at rx; simp only [Option.some.injEq, Prod.mk.injEq] at rx
        subst h; exact ⟨hlive, base, cap, by rw [← rx.1]; exact r1⟩
      · rw [if_neg h] at rx lx; exact ⟨lx, _, _, rx⟩
    obtain ⟨l1, x1, y1, e1⟩ := key j hj lj _ _ _ rj
    obtain ⟨l2, x2, y2, e2⟩ := key k hk lk _ _ _ rk
    exact hs.inj j k hj hk hjk l1 l2 _ _ _ _ _ _ e1 e2

section
variable {P : Program} {cx : Ctx} {o : Oper} {env : List V} {H : List Obj} {id : Nat} {K : Eff → Prop}

theorem elem_ptr (hcx : CxOk P cx) {t e : Nat} (hk : (cx.ty t).kind = .ptr e) : P.underlying t = some (.pointer e) := by
  have := (hcx t (by rw [hk]; simp)).kind; rw [hk] at this; exact this

theorem VR_view {m : M} {i n a b : Nat} {u : Ty} {l : List u.El} {bb base : Nat} (hi : i < m.H.length) (ho : m.H.getD i .none = .row u l false) (hl : l.length = n) (hn : n ≤ LIM) (hab : a ≤ b) (hbn : b ≤ n) {cap : Nat} (hρ : m.ρ i = some (bb, base, cap)) (hcap : n ≤ cap) :
    VR m (.slice (some (if n = a then ⟨bb, base, none⟩ else (⟨bb, base, none⟩ : Addr).add (a * u.cells))) (b - a) (n - a)) ⟨.rf u, (i, some (a, b - a))⟩ := by
  simp only [VR, Ty.isAgg, CR]
  refine ⟨_, _, _, rfl, by omega, by omega, hi, ?_⟩
  rw [ho]
  refine ⟨rfl, rfl, by omega, by omega, ?_⟩
  by_cases h : n = a
  · left; omega
  · right
    refine ⟨bb, base, cap, hρ, ?_, by omega⟩
    rw [if_neg h, add_off]

theorem fine_slice_arr {t : Nat} {x : Operand} {lo hi : Option Operand} (ho : o.op = .slice t x lo hi none) {v : V} (hx : opnd env x = some v) {ulo uhi : Option V}
    (hlo : OpO env lo ulo) (hhi : OpO env hi uhi) (hcx : CxOk P cx) (h : sliceV H cx t v ulo uhi K) {pa : Nat} (hk : (cx.ty t).kind = .ptr pa) : Fine P o env H id K := by
  have hox : x ∈ o.op.operands.toList := by simp [ho, Op.operands]
  have hol : ∀ y, lo = some y → y ∈ o.op.operands.toList := fun y e => by simp [ho, Op.operands, e]
  have hoh : ∀ y, hi = some y → y ∈ o.op.operands.toList := fun y e => by simp [ho, Op.operands, e]
  unfold sliceV at h
  rw [hk] at h
  simp only at h
  have hu := elem_ptr hcx hk
  split at h
  · rename_i n e hka
    have hua := elem_arr hcx hka
    obtain ⟨hkn, h⟩ := gd_true h
    have hz := known_size hcx hkn
    split at h
    · rename_i i _
      have exec : ∀ (m : M) (ac : Act) (bb base a b : Nat), ac.eval x = .pointer (some ⟨bb, base, none⟩) → (Go.Instr.sliceBounds false n n (lo.map ac.eval) (hi.map ac.eval) none).run P m.w = .ok (a, b, n) m.w →
          (execOp ac.eval o).run P m.w = .ok (.value (.slice (some (if n = a then ⟨bb, base, none⟩ else (⟨bb, base, none⟩ : Addr).add (a * (cx.ty e).size))) (b - a) (n - a))) m.w := by
        intro m ac bb base a b e1 hb
        simp only [execOp, ho, e1, Go.Instr.sliceAt, Sem.run_bind, run_underlying hu, Result.andThen_ok, Go.Instr.slice, Option.map_none]
        simp [run_underlying hu, run_underlying hua, hb, hz, asAddr]
      split at h
      · rename_i m0 u l hob
        obtain ⟨h0, h⟩ := gd_true h
        simp only [Bool.and_eq_true, decide_eq_true_eq] at h0
        obtain ⟨⟨rfl, hsz⟩, hlim⟩ := h0
        obtain ⟨a, b, h, h1, h2, _, _, hr⟩ := bnds_run (P := P) h
        refine ⟨_, h, fun m ac hs hon hlen hrd hfree => ?_⟩
        obtain ⟨hi0, hri⟩ := hrd i (by simp)
        obtain ⟨bb, off, e1, g1, g2⟩ := VR.pt (hon x hox _ hx)
        rw [hob] at hri
        rcases g2 with g2 | ⟨_, base, cap, hρ, hoff⟩
        · simp only at g2; rw [hri] at g2; cases g2
        · simp only [pathOff, Nat.add_zero] at hoff
          subst hoff
          obtain ⟨b', base', cap', q1, q2, q3, q4⟩ := hs.retag (i := i) g1 hri hlim
          simp only at hρ
          rw [hρ] at q1; simp only [Option.some.injEq, Prod.mk.injEq] at q1
          obtain ⟨rfl, rfl, _⟩ := q1
          refine Gives.value (exec m ac bb off a b e1 (hr m m.w _ _ (opt_rel hon hol hlo) (opt_rel hon hoh hhi) false m0 m0 rfl (Nat.le_refl _))) ⟨⟨fun j => if j = i then some (bb, off, m0) else m.ρ j, m.H.set i (.row u l false), m.S, m.w⟩, rfl, rfl, q3, q4, ?_⟩
          rw [← hsz]
          refine VR_view (l := l) (by simpa using g1) ?_ q2 hlim h1 h2 (by simp) (Nat.le_refl _)
          show (m.H.set i _).getD i .none = _
          rw [getD_set g1]; simp
      · rename_i u l hob
        obtain ⟨h0, h⟩ := gd_true h
        simp only [Bool.and_eq_true, decide_eq_true_eq] at h0
        obtain ⟨rfl, hsz⟩ := h0
        obtain ⟨a, b, h, h1, h2, _, _, hr⟩ := bnds_run (P := P) h
        refine ⟨_, h, fun m ac hs hon hlen hrd hfree => ?_⟩
        obtain ⟨hi0, hri⟩ := hrd i (by simp)
        obtain ⟨bb, off, e1, g1, g2⟩ := VR.pt (hon x hox _ hx)
        rw [hob] at hri
        rcases g2 with g2 | ⟨_, base, cap, hρ, hoff⟩
        · simp only at g2; rw [hri] at g2; cases g2
        · simp only [pathOff, Nat.add_zero] at hoff
          subst hoff
          simp only at hρ
          have hok := hs.ok i g1
          simp only [hri, OR] at hok
          rcases hok with ⟨_, hn⟩ | ⟨b', base', cap', q1, q2, q3, q4, _⟩
          · rw [hρ] at hn; cases hn
          · rw [hρ] at q1; simp only [Option.some.injEq, Prod.mk.injEq] at q1
            obtain ⟨rfl, rfl, rfl⟩ := q1
            refine Gives.value (exec m ac bb off a b e1 (hr m m.w _ _ (opt_rel hon hol hlo) (opt_rel hon hoh hhi) false l.length l.length rfl (Nat.le_refl _))) ⟨m, rfl, rfl, hs, M.le.refl m, ?_⟩
            rw [← hsz]
            exact VR_view (l := l) g1 hri rfl q4 h1 h2 hρ q3
      · exact h.elim
    · exact h.elim
  · exact h.elim

end
end Go.Abs
