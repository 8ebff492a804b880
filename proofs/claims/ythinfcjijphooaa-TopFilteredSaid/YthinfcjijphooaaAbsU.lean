/- Code: the whole. -/
import Derived.Test.YthinfcjijphooaaAbsS
namespace Go.Abs
set_option linter.unusedVariables false
set_option linter.unusedSimpArgs false
open Go

section
variable {P : Program} {cx : Ctx} {M0 : M}

theorem takeS_sound {st : St} {m : M} {a : Act} (hr : Rel st m a) : ∀ {live : List (Nat × Md)} {l : List (Nat × V)} {H : List Obj}, takeS st live = some (l, H) →
    ∃ m' : M, m'.w = m.w ∧ m'.H = H ∧ StR m' ∧ m.le m' ∧ ∀ i v, (i, v) ∈ l → v.t.refOk = true ∧ VR m' (a.tmps.getD i undef) v
  | [], l, H, h => by
    simp only [takeS, Option.some.injEq, Prod.mk.injEq] at h
    obtain ⟨rfl, rfl⟩ := h
    exact ⟨m, rfl, hr.H, hr.str, M.le.refl m, by simp⟩
  | (i, md) :: r, l, H, h => by
    simp only [takeS] at h
    split at h
    · cases h
    · rename_i l1 H1 h1
      obtain ⟨m1, e1, e2, s1, le1, v1⟩ := takeS_sound hr h1
      split at h
      · cases h
      · rename_i v hv
        have hvr := (hr.env i v hv).mono le1
        have keep : ∀ {l : List (Nat × V)} {H : List Obj}, v.t.refOk = true → some ((i, v) :: l1, H1) = some (l, H) → ∃ m' : M, m'.w = m.w ∧ m'.H = H ∧ StR m' ∧ m.le m' ∧ ∀ i v, (i, v) ∈ l → v.t.refOk = true ∧ VR m' (a.tmps.getD i undef) v := by
          intro l H hrf h
          simp only [Option.some.injEq, Prod.mk.injEq] at h
          obtain ⟨rfl, rfl⟩ := h
          refine ⟨m1, e1, e2, s1, le1, fun j u hj => ?_⟩
          rcases List.mem_cons.1 hj with hj | hj
          · simp only [Prod.mk.injEq] at hj; obtain ⟨rfl, rfl⟩ := hj; exact ⟨hrf, hvr⟩
          · exact v1 j u hj
        split at h
        · split at h
          · rename_i hrf; exact keep hrf h
          · cases h
        · rename_i t
          split at h
          · simp only [Option.some.injEq, Prod.mk.injEq] at h
            obtain ⟨rfl, rfl⟩ := h
            obtain ⟨q1, q2⟩ := s1.more 1
            obtain ⟨q3, q4⟩ := q1.lay (w' := m1.w) (Grows.refl _) (id := m1.H.length) (by simp) (ob := .row t [] false) (r := none) (fun _ _ _ h => by cases h) (fun _ => by simp [OR])
            have hH : (m1.H ++ List.replicate 1 Obj.free).set m1.H.length (.row t [] false) = H1 ++ [.row t [] false] := by
              rw [← e2]; simp
            refine ⟨⟨fun j => if j = m1.H.length then none else m1.ρ j, (m1.H ++ List.replicate 1 Obj.free).set m1.H.length (.row t [] false), m1.S, m1.w⟩, e1, hH, q3, (le1.trans q2).trans q4, fun j u hj => ?_⟩
            rcases List.mem_cons.1 hj with hj | hj
            · simp only [Prod.mk.injEq] at hj; obtain ⟨rfl, rfl⟩ := hj
              refine ⟨rfl, ?_⟩
              have := VR.nilS hvr
              rw [this]
              simp only [VR, Ty.isAgg, CR]
              refine ⟨_, _, _, rfl, Nat.le_refl _, by simp, by simp [e2], ?_⟩
              have hg : ((m1.H ++ List.replicate 1 Obj.free).set m1.H.length (.row t [] false)).getD H1.length .none = .row t [] false := by rw [hH]; simp [List.getD]
              simp only [hg]
              exact ⟨trivial, by simp, .inl trivial⟩
            · obtain ⟨g1, g2⟩ := v1 j u hj
              exact ⟨g1, (g2.mono q2).mono q4⟩
          · split at h
            · rename_i hrf; exact keep hrf h
            · cases h
        · rename_i t
          split at h
          · rename_i y z hd
            split at h
            · rename_i hz
              simp only [Bool.and_eq_true, rdOk, List.all_eq_true, decide_eq_true_eq] at hz
              simp only [Option.some.injEq, Prod.mk.injEq] at h
              obtain ⟨rfl, rfl⟩ := h
              obtain ⟨S', q1, q2, q3, q4⟩ := s1.freezesL (H0 := H1) (by rw [e2]) (z := z) (fun k hk => ⟨hz.1 k hk, by rw [e2]⟩)
              refine ⟨⟨m1.ρ, ups m1.H (frzAll H1 z), S', m1.w⟩, e1, by rw [e2], q2, le1.trans q3, fun j u hj => ?_⟩
              rcases List.mem_cons.1 hj with hj | hj
              · simp only [Prod.mk.injEq] at hj; obtain ⟨rfl, rfl⟩ := hj
                exact ⟨hz.2, deepAs_VR (m' := ⟨m1.ρ, ups m1.H (frzAll H1 z), S', m1.w⟩) s1 q1 rfl hvr hd (fun k _ => .inl (by rw [e2])) q4⟩
              · obtain ⟨g1, g2⟩ := v1 j u hj
                exact ⟨g1, g2.mono q3⟩
            · cases h
          · cases h

theorem putAll_length (s : Nat → Nat) : ∀ (l : List (Nat × V)) (env : List V), (putAll s l env).length = env.length
  | [], _ => rfl
  | (i, v) :: r, env => by simp [putAll, putAll_length s r env]

theorem putAll_get {s : Nat → Nat} {R : Nat → V → Prop} : ∀ {l : List (Nat × V)} {env : List V}, (∀ i v, env[i]? = some v → R i v) → (∀ i v, (i, v) ∈ l → R i ⟨v.t, renV s v.t v.x⟩) → ∀ i v, (putAll s l env)[i]? = some v → R i v
  | [], _, h, _, i, v, hv => h i v hv
  | (j, u) :: r, env, h, hl, i, v, hv => by
    simp only [putAll, List.getElem?_set] at hv
    split at hv
    · rename_i e; subst e
      split at hv
      · simp only [Option.some.injEq] at hv; subst hv; exact hl j u (by simp)
      · cases hv
    · exact putAll_get h (fun i v hi => hl i v (by simp [hi])) i v hv

theorem gcS_sound {pin : Nat} (hpin : M0.H.length = pin) {live : List (Nat × Md)} {st st' : St} (h : gcS pin live st = some st') {a : Act} {w : World} (hh : Holds M0 st a w) : Holds M0 st' a w := by
  obtain ⟨m, rfl, hr, he⟩ := hh
  unfold gcS at h
  split at h
  · cases h
  · rename_i l H hl
    obtain ⟨m', e1, e2, s1, le1, v1⟩ := takeS_sound hr hl
    split at h
    · cases h
    · rename_i s hs
      split at h
      · rename_i hb
        simp only [rdOk, List.all_eq_true, decide_eq_true_eq] at hb
        simp only [Option.some.injEq] at h
        subst h
        obtain ⟨r1, r2, r3, r4⟩ := reach_spec hs (by simp)
        rw [← e2] at hb
        have hcl : ∀ i ∈ s, ∃ l, idsO (m'.H.getD i .none) = some l ∧ ∀ j ∈ l, j ∈ s := fun i hi => by
          rw [e2]
          rcases r4 i hi with h | h
          · cases h
          · exact h
        have hext : Ext M0 (renM m' s) := by
          obtain ⟨t, ht⟩ := reach_prefix hs (by simpa using List.nodup_range)
          simp only [List.nil_append] at ht
          refine (he.step le1).ren hb (fun i hi => ?_) (by rw [ht, hpin]; simp) (fun i hi => ?_)
          · obtain ⟨l, hl, _⟩ := hcl i hi
            intro h; rw [h] at hl; cases hl
          · rw [hpin] at hi; rw [ht]; simp [List.getD, List.getElem?_append, hi]
        refine ⟨renM m' s, e1, ⟨s1.ren r1 hcl hb, by rw [← e2]; rfl, by rw [putAll_length]; simpa using hr.size, hr.defers, ?_⟩, hext⟩
        refine putAll_get (s := renI s) (R := fun i v => VR (renM m' s) (a.tmps.getD i undef) v) (fun i v hv => ?_) (fun i v hi => ?_)
        · rw [List.getElem?_replicate] at hv
          split at hv
          · simp only [Option.some.injEq] at hv; subst hv; exact VR.undef _ _
          · cases hv
        · obtain ⟨g1, g2⟩ := v1 i v hi
          exact VR.ren g1 (fun j hj => r3 j (by rw [List.mem_append, List.mem_flatMap]; exact .inr ⟨(i, v), hi, hj⟩)) g2
      · cases h

def XR : Exit → Xt → Prop
  | .normal, .norm => True
  | .exit i, .out j => i = j
  | .ret, .ret => True
  | _, _ => False

/-- What is asked of an end. -/
def QK (M0 : M) (K : XK) (e : Exit) (a : Act) (w : World) : Prop := ∃ x st, XR e x ∧ K x st ∧ Holds M0 st a w

theorem exec_sum (c : Code) (s : Summ) (m : MT) (K : XK) (st : St) : exec cx c (.sum s m) K st = optK (gcS cx.pin s.pre st) fun st1 => s.run st1 K := by
  cases c
  case region _ _ d => cases d <;> rfl
  all_goals rfl

theorem sumOr_of {mt : MT} (h : mt.isSum = false) (K : XK) (st : St) (core : Prop) : sumOr cx.pin mt K st core = core := by
  cases mt <;> first | rfl | cases h

theorem core_of {mt : MT} (h : mt.isSum = false) : mt.core = mt := by
  cases mt <;> first | rfl | cases h

theorem obls_sum (c : Code) (s : Summ) (m : MT) : ∀ o ∈ obls c m, o ∈ obls c (.sum s m) := by
  intro o h
  cases c <;> simp only [obls, MT.core, MT.tops, List.mem_append, List.mem_cons] at h ⊢
  all_goals first | exact .inr h | (rcases h with h | h; exact .inl (.inr h); exact .inr h)

theorem obls_self (c : Code) (s : Summ) (m : MT) : ⟨s, c, m⟩ ∈ obls c (.sum s m) := by
  cases c <;> simp [obls, MT.tops]

theorem sum_case (hpin : M0.H.length = cx.pin) {c : Code}
    (hcore : ∀ mt : MT, mt.isSum = false → (∀ o ∈ obls c mt, Ob.ok cx o) → ∀ {K : XK} {st : St} {a : Act} {w : World}, exec cx c mt K st → Holds M0 st a w → c.wp P (QK M0 K) a w) :
    ∀ {mt : MT}, (∀ o ∈ obls c mt, Ob.ok cx o) → ∀ {K : XK} {st : St} {a : Act} {w : World}, exec cx c mt K st → Holds M0 st a w → c.wp P (QK M0 K) a w := by
  intro mt
  induction mt with
  | sum s m ih =>
    intro ho K st a w h hh
    rw [exec_sum] at h
    obtain ⟨st1, hg, h⟩ := optK_some h
    have hh1 := gcS_sound hpin hg hh
    have h2 := ho _ (obls_self c s m) st1 K h
    refine wp_mono (ih (fun o h => ho o (obls_sum c s m o h)) h2 hh1) fun e a' w' ⟨xt, st', hx, hK, hh'⟩ => ?_
    cases xt
    · obtain ⟨st2, hg2, hK⟩ := optK_some hK
      exact ⟨.norm, st2, hx, hK, gcS_sound hpin hg2 hh'⟩
    · obtain ⟨st2, hg2, hK⟩ := optK_some hK
      exact ⟨.out _, st2, hx, hK, gcS_sound hpin hg2 hh'⟩
    · obtain ⟨st2, hg2, hK⟩ := optK_some hK
      exact ⟨.ret, st2, hx, hK, gcS_sound hpin hg2 hh'⟩
  | leaf => exact hcore _ rfl
  | two a b => exact hcore _ rfl
  | one a => exact hcore _ rfl
  | loop l o a => exact hcore _ rfl

theorem exec_sound (hpin : M0.H.length = cx.pin) (hm : P.follows .mixedOrders = true) (hcx : CxOk P cx) (hcalls : CallsOk P cx) (hdet : CallsDet cx) : ∀ (c : Code) {mt : MT}, (∀ o ∈ obls c mt, Ob.ok cx o) → ∀ {K : XK} {st : St} {a : Act} {w : World},
    exec cx c mt K st → Holds M0 st a w → c.wp P (QK M0 K) a w := by
  intro c
  induction c with
  | skip => refine sum_case hpin fun mt hn ho K st a w h hh => ?_; simp only [exec, sumOr_of hn] at h; exact wp_skip ⟨.norm, st, trivial, h, hh⟩
  | region id ops draw =>
    refine sum_case hpin fun mt hn ho K st a w h hh => ?_
    cases draw with
    | false =>
      simp only [exec, sumOr_of hn] at h
      exact wp_region_list (runOps_sound hcx hcalls hdet (fun st a w hK hh => ⟨.norm, st, trivial, hK, hh⟩) ops.toList st a w h hh)
    | true =>
      simp only [exec, sumOr_of hn] at h
      exact region_sound hm hcx hcalls hdet h (fun st a w hK hh => ⟨.norm, st, trivial, hK, hh⟩) hh
  | seq x y ihx ihy =>
    refine sum_case hpin fun mt hn ho K st a w h hh => ?_
    simp only [obls, core_of hn] at ho
    simp only [exec, sumOr_of hn] at h
    refine wp_seq (wp_mono (ihx (fun o h => ho o (by simp [h])) h hh) fun e a' w' ⟨xt, st', hx, hK, hh'⟩ => ?_)
    cases e <;> cases xt <;> simp only [XR] at hx <;> simp only [Exit.then]
    · exact ihy (fun o h => ho o (by simp [h])) hK hh'
    · exact ⟨.out _, st', hx, hK, hh'⟩
    · exact ⟨.ret, st', hx, hK, hh'⟩
  | cond o x y ihx ihy =>
    refine sum_case hpin fun mt hn ho K st a w h hh => ?_
    simp only [obls, core_of hn] at ho
    simp only [exec, sumOr_of hn] at h
    split at h
    · rename_i t ho'
      obtain ⟨m, rfl, hr, he⟩ := hh
      have hv := VR.bool (hr.opnd ho')
      rcases br_or h with ⟨ht, h⟩ | ⟨ht, h⟩
      · rw [ht] at hv; exact wp_cond_true hv (ihx (fun o h => ho o (by simp [h])) h ⟨m, rfl, hr, he⟩)
      · rw [ht] at hv; exact wp_cond_false hv (ihy (fun o h => ho o (by simp [h])) h ⟨m, rfl, hr, he⟩)
    · exact h.elim
  | block id x ih =>
    refine sum_case hpin fun mt hn ho K st a w h hh => ?_
    simp only [obls, core_of hn] at ho
    simp only [exec, sumOr_of hn] at h
    refine wp_block (wp_mono (ih (fun o h => ho o (by simp [h])) h hh) fun e a' w' ⟨xt, st', hx, hK, hh'⟩ => ?_)
    cases e <;> cases xt <;> simp only [XR] at hx <;> simp only [Exit.inBlock]
    · exact ⟨.norm, st', trivial, hK, hh'⟩
    · rename_i i _ j
      have hx : i = j := hx
      rw [hx]
      simp only at hK
      by_cases hj : j = id
      · rw [if_pos hj]
        rw [show decide (j = id) = true by simp [hj]] at hK
        exact ⟨.norm, st', trivial, hK, hh'⟩
      · rw [if_neg hj]
        rw [show decide (j = id) = false by simp [hj]] at hK
        exact ⟨.out j, st', rfl, hK, hh'⟩
    · exact ⟨.ret, st', trivial, hK, hh'⟩
  | loop x ih =>
    refine sum_case hpin fun mt hn ho K st a w h hh => ?_
    simp only [obls, core_of hn] at ho
    simp only [exec, sumOr_of hn] at h
    obtain ⟨st1, hg, h⟩ := optK_some h
    have hh1 := gcS_sound hpin hg hh
    refine wp_loop_rounds cx.fuel ?_
    clear hg hh
    generalize cx.fuel = n at h
    induction n generalizing st1 a w with
    | zero => simp only [loopN] at h
    | succ n ihn =>
      simp only [loopN] at h
      rw [rounds_succ]
      refine wp_mono (ih (fun o h => ho o (by simp [h])) h hh1) fun e a' w' ⟨xt, st', hx, hK, hh'⟩ => ?_
      cases e <;> cases xt <;> simp only [XR] at hx <;> simp only [Exit.then]
      · obtain ⟨st2, hg2, hK⟩ := optK_some hK
        first | exact ihn _ _ _ hK (gcS_sound hpin hg2 hh') | exact ihn _ _ _ (gcS_sound hpin hg2 hh') hK | exact ihn st2 a' w' (gcS_sound hpin hg2 hh') hK | exact ihn a' w' st2 (gcS_sound hpin hg2 hh') hK
      · obtain ⟨st2, hg2, hK⟩ := optK_some hK
        exact ⟨.out _, st2, hx, hK, gcS_sound hpin hg2 hh'⟩
      · exact ⟨.ret, st', trivial, hK, hh'⟩
  | exit id => refine sum_case hpin fun mt hn ho K st a w h hh => ?_; simp only [exec, sumOr_of hn] at h; exact wp_exit ⟨.out id, st, rfl, h, hh⟩
  | scope x ih =>
    refine sum_case hpin fun mt hn ho K st a w h hh => ?_
    simp only [obls, core_of hn] at ho
    simp only [exec, sumOr_of hn] at h
    refine wp_scope_straight (wp_mono (ih (fun o h => ho o (by simp [h])) h hh) fun e a' w' ⟨xt, st', hx, hK, hh'⟩ => ?_)
    cases e <;> cases xt <;> simp only [XR] at hx <;> simp only [Exit.noGoto]
    · exact ⟨.norm, st', trivial, hK, hh'⟩
    · exact ⟨.out _, st', hx, hK, hh'⟩
    · exact ⟨.ret, st', trivial, hK, hh'⟩
  | ret => refine sum_case hpin fun mt hn ho K st a w h hh => ?_; simp only [exec, sumOr_of hn] at h; exact wp_ret ⟨.ret, st, trivial, h, hh⟩
  | rangeFunc => refine sum_case hpin fun mt hn ho K st a w h hh => ?_; simp only [exec, sumOr_of hn] at h
  | label => refine sum_case hpin fun mt hn ho K st a w h hh => ?_; simp only [exec, sumOr_of hn] at h
  | goto => refine sum_case hpin fun mt hn ho K st a w h hh => ?_; simp only [exec, sumOr_of hn] at h
  | refuse => refine sum_case hpin fun mt hn ho K st a w h hh => ?_; simp only [exec, sumOr_of hn] at h

end
end Go.Abs
