/- Code: the whole. -/
import Derived.Test.YthinfcjijphooaaAbsS
namespace Go.Abs
set_option linter.unusedVariables false
set_option linter.unusedSimpArgs false
open Go

section
variable {P : Program} {cx : Ctx} {M0 : M}

theorem refOk_pair {a b : Ty} (h1 : a.refOk = true) (h2 : b.refOk = true) : (Ty.pair a b).refOk = true := by simp [Ty.refOk, h1, h2]

/-- What a value told anew keeps. -/
def Fixed (m : M) (t : Ty) (x : t.El) (u : V) (H' : List Obj) : Prop :=
  ∃ m' : M, m'.w = m.w ∧ m'.H = H' ∧ StR m' ∧ m.le m' ∧ u.t.isAgg = t.isAgg ∧ u.t.cells = t.cells ∧ u.t.refOk = true ∧ ∀ cs, CR m false t cs x → CR m' false u.t cs u.x

theorem Fixed.keep {m : M} (hs : StR m) {t : Ty} {x : t.El} (h : t.refOk = true) : Fixed m t x ⟨t, x⟩ m.H := ⟨m, rfl, rfl, hs, M.le.refl m, rfl, rfl, h, fun _ h => h⟩

theorem moveR_sound {m : M} (hs : StR m) {pin : Nat} {u : Ty} {x : Nat × Option (Nat × Nat)} : Fixed m (.rf u) x (moveR pin m.H u x).1 (moveR pin m.H u x).2 := by
  have keep : Fixed m (.rf u) x ⟨.rf u, x⟩ m.H := Fixed.keep hs rfl
  unfold moveR
  obtain ⟨i, p⟩ := x
  cases p with
  | some q => exact keep
  | none =>
    simp only
    split
    · split
      · rename_i t l hi
        split
        · rename_i ht
          simp only [decide_eq_true_eq] at ht; subst ht
          have hlt : i < m.H.length := by
            rcases Nat.lt_or_ge i m.H.length with h | h
            · exact h
            · rw [List.getElem?_eq_none h] at hi; cases hi
          have hgi : m.H.getD i .none = .row t l false := by simp [List.getD, hi]
          obtain ⟨q1, q2⟩ := hs.more 1
          -- the object goes
          let m1 : M := ⟨m.ρ, m.H ++ List.replicate 1 .free, m.S, m.w⟩
          have hg1 : ∀ j, j < m.H.length → m1.H.getD j .none = m.H.getD j .none := fun j hj => by
            show (m.H ++ List.replicate 1 Obj.free).getD j .none = _
            simp only [List.getD_eq_getElem?_getD]; rw [List.getElem?_append_left hj]
          have hl1 : m1.H.length = m.H.length + 1 := by simp [m1]
          have hH : (m1.H.set i .none).set m.H.length (.row t l false) = m.H.set i .none ++ [.row t l false] := by
            show ((m.H ++ List.replicate 1 Obj.free).set i .none).set m.H.length (.row t l false) = _
            rw [List.set_append_left _ _ hlt]
            have : m.H.length = (m.H.set i .none).length := by simp
            rw [List.set_append_right _ _ (by simp)]
            simp
          have hg2 : ∀ j, ((m1.H.set i .none).set m.H.length (.row t l false)).getD j .none = if j = m.H.length then .row t l false else if j = i then .none else m1.H.getD j .none := fun j => by
            rw [getD_set (by simp [hl1]), getD_set (by rw [hl1]; omega)]
          let m2 : M := ⟨fun j => if j = m.H.length then m.ρ i else m.ρ j, (m1.H.set i .none).set m.H.length (.row t l false), m.S, m.w⟩
          have own2 : ∀ b, Own m2 b → Own m b := fun b ⟨j, j1, j2, base, cap, j3⟩ => by
            simp only [m2, List.length_set, hl1] at j1
            simp only [m2] at j2 j3
            rw [hg2] at j2
            by_cases e : j = m.H.length
            · rw [if_pos e] at j3
              exact ⟨i, hlt, by rw [hgi]; trivial, base, cap, j3⟩
            · rw [if_neg e] at j2 j3
              by_cases e2 : j = i
              · rw [if_pos e2] at j2; exact j2.elim
              · rw [if_neg e2, hg1 j (by omega)] at j2
                exact ⟨j, by omega, j2, base, cap, j3⟩
          have le2 : m.le m2 := by
            refine ⟨⟨Nat.le_refl _, fun b hb ho => ⟨fun h => ho (own2 b h), fun _ => rfl, fun _ => rfl, fun h => h⟩⟩, fun _ h => h, fun _ _ _ _ h => h, by simp [m2, hl1], fun j hj => ?_, fun j hj => ?_, ⟨⟨rfl, rfl, rfl⟩, fun _ _ _ => rfl⟩⟩
            · have e : j ≠ m.H.length := by omega
              by_cases e2 : j = i
              · right; left; show (((m1.H.set i .none).set m.H.length (.row t l false)).getD j .none) = .none; rw [hg2, if_neg e, if_pos e2]
              · right; right; simp only [m2, if_neg e]; exact RStep.refl _ _
            · have e : j ≠ m.H.length := by omega
              show OStep _ (((m1.H.set i .none).set m.H.length (.row t l false)).getD j .none)
              rw [hg2, if_neg e]
              split
              · cases m.H.getD j .none <;> simp [OStep]
              · rw [hg1 j hj]; exact OStep.refl _
          have str2 : StR m2 := by
            refine ⟨fun j hj => ?_, fun j k hj hk hjk lj lk b base cap b' base' cap' rj rk => ?_, hs.bd⟩
            · simp only [m2, List.length_set, hl1] at hj
              show OR m2 j (((m1.H.set i .none).set m.H.length (.row t l false)).getD j .none)
              rw [hg2]
              by_cases e : j = m.H.length
              · rw [if_pos e]
                have hok := hs.ok i hlt
                rw [hgi] at hok
                exact OR_row_mono hok (by simp only [m2, if_pos e]) rfl (fun hc => hc.mono le2) (fun _ h => h)
              · rw [if_neg e]
                by_cases e2 : j = i
                · rw [if_pos e2]; trivial
                · rw [if_neg e2, hg1 j (by omega)]
                  exact OR.go le2 (by simp only [m2, if_neg e]) (Nat.le_refl _) (fun b base cap _ _ => ⟨fun _ => rfl, fun _ => rfl, fun h => h⟩) (hs.ok j (by omega))
            · simp only [m2, List.length_set, hl1] at hj hk
              simp only [m2] at lj lk rj rk
              rw [hg2] at lj lk
              by_cases e : j = m.H.length
              · have e' : k ≠ m.H.length := fun h => hjk (e.trans h.symm)
                rw [if_pos e] at rj
                rw [if_neg e'] at lk rk
                by_cases e2 : k = i
                · rw [if_pos e2] at lk; exact lk.elim
                · rw [if_neg e2, hg1 k (by omega)] at lk
                  exact hs.inj i k hlt (by omega) (fun h => e2 h.symm) (by rw [hgi]; trivial) lk _ _ _ _ _ _ rj rk
              · rw [if_neg e] at lj rj
                by_cases e2 : j = i
                · rw [if_pos e2] at lj; exact lj.elim
                · rw [if_neg e2, hg1 j (by omega)] at lj
                  by_cases e' : k = m.H.length
                  · rw [if_pos e'] at rk
                    exact hs.inj j i (by omega) hlt e2 lj (by rw [hgi]; trivial) _ _ _ _ _ _ rj rk
                  · rw [if_neg e'] at lk rk
                    by_cases e3 : k = i
                    · rw [if_pos e3] at lk; exact lk.elim
                    · rw [if_neg e3, hg1 k (by omega)] at lk
                      exact hs.inj j k (by omega) (by omega) hjk lj lk _ _ _ _ _ _ rj rk
          refine ⟨m2, rfl, hH, str2, le2, rfl, rfl, rfl, fun cs hc => ?_⟩
          simp only [CR] at hc ⊢
          obtain ⟨a, n, c, e, h1, h2, h3, h4⟩ := hc
          refine ⟨a, n, c, e, h1, h2, by simp [m2, hl1], ?_⟩
          have : m2.H.getD m.H.length .none = .row t l false := by show (((m1.H.set i .none).set m.H.length (.row t l false)).getD m.H.length .none) = _; rw [hg2, if_pos rfl]
          rw [this]
          rw [hgi] at h4
          obtain ⟨_, h5, h6⟩ := h4
          refine ⟨rfl, h5, ?_⟩
          simp only [m2, if_true]; exact h6
        · exact keep
      · exact keep
    · exact keep

theorem fixV_sound {pin : Nat} : ∀ {md : Md} {m : M} {H : List Obj} {t : Ty} {x : t.El} {u : V} {H' : List Obj}, StR m → m.H = H → (∃ cs, CR m false t cs x) → fixV pin md H t x = some (u, H') → Fixed m t x u H' := by
  intro md
  induction md with
  | keep =>
    intro m H t x u H' hs hH _ h
    subst hH
    simp only [fixV] at h
    split at h
    · rename_i hr; simp only [Option.some.injEq, Prod.mk.injEq] at h; obtain ⟨rfl, rfl⟩ := h; exact Fixed.keep hs hr
    · cases h
  | own v =>
    intro m H t x u H' hs hH hex h
    subst hH
    simp only [fixV] at h
    split at h
    · simp only [Option.some.injEq, Prod.mk.injEq] at h
      obtain ⟨rfl, rfl⟩ := h
      obtain ⟨q1, q2⟩ := hs.more 1
      obtain ⟨q3, q4⟩ := q1.lay (w' := m.w) (Grows.refl _) (id := m.H.length) (by simp) (ob := .row v [] false) (r := none) (fun _ _ _ h => by cases h) (fun _ => by simp [OR])
      have hH : (m.H ++ List.replicate 1 Obj.free).set m.H.length (.row v [] false) = m.H ++ [.row v [] false] := by simp
      refine ⟨⟨fun j => if j = m.H.length then none else m.ρ j, (m.H ++ List.replicate 1 Obj.free).set m.H.length (.row v [] false), m.S, m.w⟩, rfl, hH, q3, q2.trans q4, rfl, rfl, rfl, fun cs hc => ?_⟩
      simp only [CR] at hc ⊢
      refine ⟨_, _, _, hc, Nat.le_refl _, by simp, by simp, ?_⟩
      have hg : ((m.H ++ List.replicate 1 Obj.free).set m.H.length (.row v [] false)).getD m.H.length .none = .row v [] false := by rw [hH]; simp [List.getD]
      simp only [hg]
      exact ⟨trivial, by simp, .inl trivial⟩
    · rename_i v x0
      simp only [Option.some.injEq] at h
      have := moveR_sound hs (pin := pin) (u := v) (x := x0)
      rw [h] at this; exact this
    · split at h
      · rename_i hr; simp only [Option.some.injEq, Prod.mk.injEq] at h; obtain ⟨rfl, rfl⟩ := h; exact Fixed.keep hs hr
      · cases h
  | deep v =>
    intro m H t x u H' hs hH hex h
    subst hH
    simp only [fixV] at h
    split at h
    · rename_i y z hd
      split at h
      · rename_i hz
        simp only [Bool.and_eq_true, rdOk, List.all_eq_true, decide_eq_true_eq] at hz
        simp only [Option.some.injEq, Prod.mk.injEq] at h
        obtain ⟨rfl, rfl⟩ := h
        obtain ⟨S', q1, q2, q3, q4⟩ := hs.freezesL (H0 := m.H) rfl (z := z) (fun k hk => ⟨hz.1 k hk, rfl⟩)
        obtain ⟨cs0, hcs0⟩ := hex
        unfold deepAs at hd
        split at hd
        · rename_i w p e1
          split at hd
          · rename_i y' e2
            simp only [Option.some.injEq, Prod.mk.injEq] at hd
            obtain ⟨rfl, rfl⟩ := hd
            obtain ⟨g1, g2, g3, g4⟩ := dv_CR (m' := ⟨m.ρ, ups m.H (frzAll m.H p), S', m.w⟩) hs q1 rfl hcs0 e1 (fun k _ => .inl rfl) q4
            obtain ⟨k1, k2, k3⟩ := co_CR g1 e2
            refine ⟨⟨m.ρ, ups m.H (frzAll m.H p), S', m.w⟩, rfl, rfl, q2, q3, k2.trans g2, k3.trans g4, hz.2, fun cs hc => ?_⟩
            exact (co_CR (dv_CR (m' := ⟨m.ρ, ups m.H (frzAll m.H p), S', m.w⟩) hs q1 rfl hc e1 (fun k _ => .inl rfl) q4).1 e2).1
          · cases hd
        · cases hd
      · cases h
    · cases h
  | pair a b iha ihb =>
    intro m H t x u H' hs hH hex h
    simp only [fixV] at h
    split at h
    · rename_i s r x0
      split at h
      · rename_i v1 H1 h1
        split at h
        · rename_i v2 H2 h2
          simp only [Option.some.injEq, Prod.mk.injEq] at h
          obtain ⟨rfl, rfl⟩ := h
          obtain ⟨cs0, hcs0⟩ := hex
          have hcs0' := hcs0
          simp only [CR] at hcs0'
          obtain ⟨c1, c2, _, _, r1, r2⟩ := hcs0'
          obtain ⟨m1, e1, e2, s1, le1, g1, g2, g3, g4⟩ := iha hs hH ⟨c1, r1⟩ h1
          obtain ⟨m2, f1, f2, s2, le2, k1, k2, k3, k4⟩ := ihb s1 e2 ⟨c2, r2.mono le1⟩ h2
          refine ⟨m2, f1.trans e1, f2, s2, le1.trans le2, rfl, by simp [Ty.cells, g2, k2], refOk_pair g3 k3, fun cs hc => ?_⟩
          simp only [CR] at hc ⊢
          obtain ⟨d1, d2, e, l, q1, q2⟩ := hc
          exact ⟨d1, d2, e, by rw [g2]; exact l, (g4 d1 q1).mono le2, k4 d2 (q2.mono le1)⟩
        · cases h
      · cases h
    · cases h
  | box a iha =>
    intro m H t x u H' hs hH hex h
    subst hH
    simp only [fixV] at h
    split at h
    · rename_i i
      split at h
      · rename_i v hi
        split at h
        · rename_i v' H1 h1
          split at h
          · rename_i w hi1
            split at h
            · rename_i hsk
              simp only [Bool.and_eq_true] at hsk
              simp only [Option.some.injEq, Prod.mk.injEq] at h
              obtain ⟨rfl, rfl⟩ := h
              have hlt : i < m.H.length := by
                rcases Nat.lt_or_ge i m.H.length with h | h
                · exact h
                · rw [List.getElem?_eq_none h] at hi; cases hi
              have hgi : m.H.getD i .none = .box v false := by simp [List.getD, hi]
              have hok := hs.ok i hlt
              rw [hgi] at hok
              simp only [OR] at hok
              obtain ⟨b, base, cap, cs, r1, r2, r3, r4, r5⟩ := hok
              obtain ⟨m1, e1, e2, s1, le1, g1, g2, g3, g4⟩ := iha hs rfl ⟨cs, r4⟩ h1
              have hlt1 : i < m1.H.length := Nat.lt_of_lt_of_le hlt le1.len
              have hgi1 : m1.H.getD i .none = .box w false := by rw [e2]; simp [List.getD, hi1]
              have hρ : ∃ cap', m1.ρ i = some (b, base, cap') := by
                rcases le1.rho i hlt with q | q | q
                · rw [hgi] at q; cases q
                · rw [hgi1] at q; cases q
                · rw [hgi] at q
                  simp only [RStep] at q
                  rcases q with q | ⟨b', base', c, c', q1, q2⟩
                  · exact ⟨cap, by rw [q]; exact r1⟩
                  · rw [r1] at q1; simp only [Option.some.injEq, Prod.mk.injEq] at q1
                    obtain ⟨rfl, rfl, _⟩ := q1
                    exact ⟨c', q2⟩
              obtain ⟨cap', hρ⟩ := hρ
              have hok1 := s1.ok i hlt1
              rw [hgi1] at hok1
              simp only [OR] at hok1
              obtain ⟨b1, base1, cap1, cs1, t1, t2, t3, t4, t5⟩ := hok1
              rw [hρ] at t1
              simp only [Option.some.injEq, Prod.mk.injEq] at t1
              obtain ⟨rfl, rfl, rfl⟩ := t1
              have hlen : cs.length = cs1.length := by rw [r4.len, t4.len, skel_cells hsk.1, skel_cells hsk.2]
              obtain ⟨q1, q2⟩ := s1.write (i := i) (b := b) (base := base) (cap := cap') hlt1 (by rw [hgi1]; trivial) hρ t5.1 (w' := m1.w) rfl (fun _ _ _ => rfl) (fun _ _ => rfl) ⟨⟨rfl, rfl, rfl⟩, fun _ _ => rfl⟩
                (ob := .box v' false) (by rw [hgi1]; exact hsk.2) trivial (fun hle2 => by
                  simp only [OR]
                  refine ⟨b, base, cap', cs, hρ, t2, by rw [show ({ ρ := m1.ρ, H := m1.H.set i (.box v' false), S := m1.S, w := m1.w } : M).w = m.w from e1]; exact r3, (g4 cs r4).mono hle2, ?_⟩
                  rw [hlen]; exact t5)
              refine ⟨⟨m1.ρ, m1.H.set i (.box v' false), m1.S, m1.w⟩, e1, by rw [e2], q1, le1.trans q2, rfl, rfl, rfl, fun cs hc => hc.mono (le1.trans q2)⟩
            · cases h
          · cases h
        · cases h
      · cases h
    · cases h

theorem takeS_sound {pin : Nat} {st : St} {m : M} {a : Act} (hr : Rel st m a) : ∀ {live : List (Nat × Md)} {l : List (Nat × V)} {H : List Obj}, takeS pin st live = some (l, H) →
    ∃ m' : M, m'.w = m.w ∧ m'.H = H ∧ StR m' ∧ m.le m' ∧ ∀ i v, (i, v) ∈ l → v.t.refOk = true ∧ VR m' (a.tmps.getD i undef) v
  | [], l, H, h => by
    simp only [takeS, Option.some.injEq, Prod.mk.injEq] at h
    obtain ⟨rfl, rfl⟩ := h
    exact ⟨m, rfl, hr.H, hr.str, M.le.refl m, by simp⟩
  | (i, md) :: r, l, H, h => by
    simp only [takeS] at h
    split at h
    · cases h
    · rename_i l1 H1 h1
      obtain ⟨m1, e1, e2, s1, le1, v1⟩ := takeS_sound hr h1
      split at h
      · cases h
      · rename_i v hv
        have hvr := (hr.env i v hv).mono le1
        split at h
        · rename_i u H2 hf
          simp only [Option.some.injEq, Prod.mk.injEq] at h
          obtain ⟨rfl, rfl⟩ := h
          have hex : ∃ cs, CR m1 false v.t cs v.x := by
            unfold VR at hvr
            split at hvr
            · obtain ⟨cs, _, h⟩ := hvr; exact ⟨_, h⟩
            · exact ⟨_, hvr⟩
          obtain ⟨m2, f1, f2, s2, le2, g1, g2, g3, g4⟩ := fixV_sound s1 e2 hex hf
          refine ⟨m2, f1.trans e1, f2, s2, le1.trans le2, fun j w hj => ?_⟩
          rcases List.mem_cons.1 hj with hj | hj
          · simp only [Prod.mk.injEq] at hj; obtain ⟨rfl, rfl⟩ := hj
            exact ⟨g3, VR_agg g1 g4 hvr⟩
          · obtain ⟨k1, k2⟩ := v1 j w hj
            exact ⟨k1, k2.mono le2⟩
        · cases h

theorem putAll_length (s : Nat → Nat) : ∀ (l : List (Nat × V)) (env : List V), (putAll s l env).length = env.length
  | [], _ => rfl
  | (i, v) :: r, env => by simp [putAll, putAll_length s r env]

theorem putAll_get {s : Nat → Nat} {R : Nat → V → Prop} : ∀ {l : List (Nat × V)} {env : List V}, (∀ i v, env[i]? = some v → R i v) → (∀ i v, (i, v) ∈ l → R i ⟨v.t, renV s v.t v.x⟩) → ∀ i v, (putAll s l env)[i]? = some v → R i v
  | [], _, h, _, i, v, hv => h i v hv
  | (j, u) :: r, env, h, hl, i, v, hv => by
    simp only [putAll, List.getElem?_set] at hv
    split at hv
    · rename_i e; subst e
      split at hv
      · simp only [Option.some.injEq] at hv; subst hv; exact hl j u (by simp)
      · cases hv
    · exact putAll_get h (fun i v hi => hl i v (by simp [hi])) i v hv

theorem gcS_sound {pin : Nat} (hpin : M0.H.length = pin) {live : List (Nat × Md)} {st st' : St} (h : gcS pin live st = some st') {a : Act} {w : World} (hh : Holds M0 st a w) : Holds M0 st' a w := by
  obtain ⟨m, rfl, hr, he⟩ := hh
  unfold gcS at h
  split at h
  · cases h
  · rename_i l H hl
    obtain ⟨m', e1, e2, s1, le1, v1⟩ := takeS_sound hr hl
    split at h
    · cases h
    · rename_i s hs
      split at h
      · rename_i hb
        simp only [rdOk, List.all_eq_true, decide_eq_true_eq] at hb
        simp only [Option.some.injEq] at h
        subst h
        obtain ⟨r1, r2, r3, r4⟩ := reach_spec hs (by simp)
        rw [← e2] at hb
        have hcl : ∀ i ∈ s, ∃ l, idsO (m'.H.getD i .none) = some l ∧ ∀ j ∈ l, j ∈ s := fun i hi => by
          rw [e2]
          rcases r4 i hi with h | h
          · cases h
          · exact h
        have hext : Ext M0 (renM m' s) := by
          obtain ⟨t, ht⟩ := reach_prefix hs (by simpa using List.nodup_range)
          simp only [List.nil_append] at ht
          refine (he.step le1).ren hb (fun i hi => ?_) (by rw [ht, hpin]; simp) (fun i hi => ?_)
          · obtain ⟨l, hl, _⟩ := hcl i hi
            intro h; rw [h] at hl; cases hl
          · rw [hpin] at hi; rw [ht]; simp [List.getD, List.getElem?_append, hi]
        refine ⟨renM m' s, e1, ⟨s1.ren r1 hcl hb, by rw [← e2]; rfl, by rw [putAll_length]; simpa using hr.size, hr.defers, ?_⟩, hext⟩
        refine putAll_get (s := renI s) (R := fun i v => VR (renM m' s) (a.tmps.getD i undef) v) (fun i v hv => ?_) (fun i v hi => ?_)
        · rw [List.getElem?_replicate] at hv
          split at hv
          · simp only [Option.some.injEq] at hv; subst hv; exact VR.undef _ _
          · cases hv
        · obtain ⟨g1, g2⟩ := v1 i v hi
          exact VR.ren g1 (fun j hj => r3 j (by rw [List.mem_append, List.mem_flatMap]; exact .inr ⟨(i, v), hi, hj⟩)) g2
      · cases h

def XR : Exit → Xt → Prop
  | .normal, .norm => True
  | .exit i, .out j => i = j
  | .ret, .ret => True
  | _, _ => False

/-- What is asked of an end. -/
def QK (M0 : M) (K : XK) (e : Exit) (a : Act) (w : World) : Prop := ∃ x st, XR e x ∧ K x st ∧ Holds M0 st a w

theorem exec_sum (c : Code) (s : Summ) (m : MT) (K : XK) (st : St) : exec cx c (.sum s m) K st = optK (gcS cx.pin s.pre st) fun st1 => s.run st1 K := by
  cases c
  case region _ _ d => cases d <;> rfl
  all_goals rfl

theorem sumOr_of {mt : MT} (h : mt.isSum = false) (K : XK) (st : St) (core : Prop) : sumOr cx.pin mt K st core = core := by
  cases mt <;> first | rfl | cases h

theorem core_of {mt : MT} (h : mt.isSum = false) : mt.core = mt := by
  cases mt <;> first | rfl | cases h

theorem obls_sum (c : Code) (s : Summ) (m : MT) : ∀ o ∈ obls c m, o ∈ obls c (.sum s m) := by
  intro o h
  cases c <;> simp only [obls, MT.core, MT.tops, List.mem_append, List.mem_cons] at h ⊢
  all_goals first | exact .inr h | (rcases h with h | h; exact .inl (.inr h); exact .inr h)

theorem obls_self (c : Code) (s : Summ) (m : MT) : ⟨s, c, m⟩ ∈ obls c (.sum s m) := by
  cases c <;> simp [obls, MT.tops]

theorem sum_case (hpin : M0.H.length = cx.pin) {c : Code}
    (hcore : ∀ mt : MT, mt.isSum = false → (∀ o ∈ obls c mt, Ob.ok cx o) → ∀ {K : XK} {st : St} {a : Act} {w : World}, exec cx c mt K st → Holds M0 st a w → c.wp P (QK M0 K) a w) :
    ∀ {mt : MT}, (∀ o ∈ obls c mt, Ob.ok cx o) → ∀ {K : XK} {st : St} {a : Act} {w : World}, exec cx c mt K st → Holds M0 st a w → c.wp P (QK M0 K) a w := by
  intro mt
  induction mt with
  | sum s m ih =>
    intro ho K st a w h hh
    rw [exec_sum] at h
    obtain ⟨st1, hg, h⟩ := optK_some h
    have hh1 := gcS_sound hpin hg hh
    have h2 := ho _ (obls_self c s m) st1 K h
    refine wp_mono (ih (fun o h => ho o (obls_sum c s m o h)) h2 hh1) fun e a' w' ⟨xt, st', hx, hK, hh'⟩ => ?_
    cases xt
    · obtain ⟨st2, hg2, hK⟩ := optK_some hK
      exact ⟨.norm, st2, hx, hK, gcS_sound hpin hg2 hh'⟩
    · obtain ⟨st2, hg2, hK⟩ := optK_some hK
      exact ⟨.out _, st2, hx, hK, gcS_sound hpin hg2 hh'⟩
    · obtain ⟨st2, hg2, hK⟩ := optK_some hK
      exact ⟨.ret, st2, hx, hK, gcS_sound hpin hg2 hh'⟩
  | leaf => exact hcore _ rfl
  | two a b => exact hcore _ rfl
  | one a => exact hcore _ rfl
  | loop l o a => exact hcore _ rfl

theorem exec_sound (hpin : M0.H.length = cx.pin) (hm : P.follows .mixedOrders = true) (hcx : CxOk P cx) (hcalls : CallsOk P cx) (hdet : CallsDet cx) : ∀ (c : Code) {mt : MT}, (∀ o ∈ obls c mt, Ob.ok cx o) → ∀ {K : XK} {st : St} {a : Act} {w : World},
    exec cx c mt K st → Holds M0 st a w → c.wp P (QK M0 K) a w := by
  intro c
  induction c with
  | skip => refine sum_case hpin fun mt hn ho K st a w h hh => ?_; simp only [exec, sumOr_of hn] at h; exact wp_skip ⟨.norm, st, trivial, h, hh⟩
  | region id ops draw =>
    refine sum_case hpin fun mt hn ho K st a w h hh => ?_
    cases draw with
    | false =>
      simp only [exec, sumOr_of hn] at h
      exact wp_region_list (runOps_sound hcx hcalls hdet (fun st a w hK hh => ⟨.norm, st, trivial, hK, hh⟩) ops.toList st a w h hh)
    | true =>
      simp only [exec, sumOr_of hn] at h
      exact region_sound hm hcx hcalls hdet h (fun st a w hK hh => ⟨.norm, st, trivial, hK, hh⟩) hh
  | seq x y ihx ihy =>
    refine sum_case hpin fun mt hn ho K st a w h hh => ?_
    simp only [obls, core_of hn] at ho
    simp only [exec, sumOr_of hn] at h
    refine wp_seq (wp_mono (ihx (fun o h => ho o (by simp [h])) h hh) fun e a' w' ⟨xt, st', hx, hK, hh'⟩ => ?_)
    cases e <;> cases xt <;> simp only [XR] at hx <;> simp only [Exit.then]
    · exact ihy (fun o h => ho o (by simp [h])) hK hh'
    · exact ⟨.out _, st', hx, hK, hh'⟩
    · exact ⟨.ret, st', hx, hK, hh'⟩
  | cond o x y ihx ihy =>
    refine sum_case hpin fun mt hn ho K st a w h hh => ?_
    simp only [obls, core_of hn] at ho
    simp only [exec, sumOr_of hn] at h
    split at h
    · rename_i t ho'
      obtain ⟨m, rfl, hr, he⟩ := hh
      have hv := VR.bool (hr.opnd ho')
      rcases br_or h with ⟨ht, h⟩ | ⟨ht, h⟩
      · rw [ht] at hv; exact wp_cond_true hv (ihx (fun o h => ho o (by simp [h])) h ⟨m, rfl, hr, he⟩)
      · rw [ht] at hv; exact wp_cond_false hv (ihy (fun o h => ho o (by simp [h])) h ⟨m, rfl, hr, he⟩)
    · exact h.elim
  | block id x ih =>
    refine sum_case hpin fun mt hn ho K st a w h hh => ?_
    simp only [obls, core_of hn] at ho
    simp only [exec, sumOr_of hn] at h
    refine wp_block (wp_mono (ih (fun o h => ho o (by simp [h])) h hh) fun e a' w' ⟨xt, st', hx, hK, hh'⟩ => ?_)
    cases e <;> cases xt <;> simp only [XR] at hx <;> simp only [Exit.inBlock]
    · exact ⟨.norm, st', trivial, hK, hh'⟩
    · rename_i i _ j
      have hx : i = j := hx
      rw [hx]
      simp only at hK
      by_cases hj : j = id
      · rw [if_pos hj]
        rw [show decide (j = id) = true by simp [hj]] at hK
        exact ⟨.norm, st', trivial, hK, hh'⟩
      · rw [if_neg hj]
        rw [show decide (j = id) = false by simp [hj]] at hK
        exact ⟨.out j, st', rfl, hK, hh'⟩
    · exact ⟨.ret, st', trivial, hK, hh'⟩
  | loop x ih =>
    refine sum_case hpin fun mt hn ho K st a w h hh => ?_
    simp only [obls, core_of hn] at ho
    simp only [exec, sumOr_of hn] at h
    obtain ⟨st1, hg, h⟩ := optK_some h
    have hh1 := gcS_sound hpin hg hh
    refine wp_loop_rounds cx.fuel ?_
    clear hg hh
    generalize cx.fuel = n at h
    induction n generalizing st1 a w with
    | zero => simp only [loopN] at h
    | succ n ihn =>
      simp only [loopN] at h
      rw [rounds_succ]
      refine wp_mono (ih (fun o h => ho o (by simp [h])) h hh1) fun e a' w' ⟨xt, st', hx, hK, hh'⟩ => ?_
      cases e <;> cases xt <;> simp only [XR] at hx <;> simp only [Exit.then]
      · obtain ⟨st2, hg2, hK⟩ := optK_some hK
        first | exact ihn _ _ _ hK (gcS_sound hpin hg2 hh') | exact ihn _ _ _ (gcS_sound hpin hg2 hh') hK | exact ihn st2 a' w' (gcS_sound hpin hg2 hh') hK | exact ihn a' w' st2 (gcS_sound hpin hg2 hh') hK
      · obtain ⟨st2, hg2, hK⟩ := optK_some hK
        exact ⟨.out _, st2, hx, hK, gcS_sound hpin hg2 hh'⟩
      · exact ⟨.ret, st', trivial, hK, hh'⟩
  | exit id => refine sum_case hpin fun mt hn ho K st a w h hh => ?_; simp only [exec, sumOr_of hn] at h; exact wp_exit ⟨.out id, st, rfl, h, hh⟩
  | scope x ih =>
    refine sum_case hpin fun mt hn ho K st a w h hh => ?_
    simp only [obls, core_of hn] at ho
    simp only [exec, sumOr_of hn] at h
    refine wp_scope_straight (wp_mono (ih (fun o h => ho o (by simp [h])) h hh) fun e a' w' ⟨xt, st', hx, hK, hh'⟩ => ?_)
    cases e <;> cases xt <;> simp only [XR] at hx <;> simp only [Exit.noGoto]
    · exact ⟨.norm, st', trivial, hK, hh'⟩
    · exact ⟨.out _, st', hx, hK, hh'⟩
    · exact ⟨.ret, st', trivial, hK, hh'⟩
  | ret => refine sum_case hpin fun mt hn ho K st a w h hh => ?_; simp only [exec, sumOr_of hn] at h; exact wp_ret ⟨.ret, st, trivial, h, hh⟩
  | rangeFunc => refine sum_case hpin fun mt hn ho K st a w h hh => ?_; simp only [exec, sumOr_of hn] at h
  | label => refine sum_case hpin fun mt hn ho K st a w h hh => ?_; simp only [exec, sumOr_of hn] at h
  | goto => refine sum_case hpin fun mt hn ho K st a w h hh => ?_; simp only [exec, sumOr_of hn] at h
  | refuse => refine sum_case hpin fun mt hn ho K st a w h hh => ?_; simp only [exec, sumOr_of hn] at h

end
end Go.Abs
