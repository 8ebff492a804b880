/- Calls, from the caller's side. -/
import Derived.Test.YthinfcjijphooaaAbsT
namespace Go.Abs
set_option linter.unusedVariables false
set_option linter.unusedSimpArgs false
open Go

/-- What is answered does not hang on what is asked of it. -/
def Spec.Det (s : Spec) : Prop := ∀ as K, s.run as K → ∃ r, K r ∧ s.run as fun x => x = r

def HSpec.Det (s : HSpec) : Prop := ∀ as H K, s.run as H K → ∃ r H', K r H' ∧ s.run as H fun x y => x = r ∧ y = H'

structure CallsDet (cx : Ctx) : Prop where
  c : ∀ f s, cx.calls f = some s → s.Det
  h : ∀ f s, cx.hcalls f = some s → s.Det

theorem Does.mono {P : Program} {f : FuncId} {vs : Array Value} {w : World} {R R' : Value → World → Prop} (h : Does P f vs w R) (hr : ∀ v w', R v w' → R' v w') : Does P f vs w R' := by
  rcases h with ⟨h1, h2⟩ | ⟨v, w', h1, h2⟩
  · exact .inl ⟨h1, h2.mono fun e w' ⟨v, e1, e2⟩ => ⟨v, e1, hr _ _ e2⟩⟩
  · exact .inr ⟨v, w', h1, hr _ _ h2⟩

theorem argsAs_rel {m m' : M} (hs : StR m) (hS : ∀ b, m.S b → m'.S b) (hw : m'.w = m.w) {H : List Obj} : ∀ {args : List V} {ps : List (Option Ty)} {as : List V} {z : List Nat} {vs : List Value}, argsAs H args ps = some (as, z) → args.length = vs.length →
    (∀ (j : Nat) (v : Value) (u : V), vs[j]? = some v → args[j]? = some u → VR m v u) →
    (∀ i ∈ z, Sim (m.H.getD i .none) (H.getD i .none)) → (∀ i ∈ z, ∀ b base cap, m.ρ i = some (b, base, cap) → (m.H.getD i .none).live → m'.S b) →
    as.length = vs.length ∧ as.length = ps.length ∧ (∀ (j : Nat) (t : Ty), ps[j]? = some (some t) → ∃ y, as[j]? = some ⟨t, y⟩) ∧ ∀ (j : Nat) (v : Value) (u : V), vs[j]? = some v → as[j]? = some u → u.t.deep = true ∧ VR m' v u
  | [], [], as, z, vs, h, hl, hv, hz, hF => by
    simp only [argsAs, Option.some.injEq, Prod.mk.injEq] at h
    obtain ⟨rfl, rfl⟩ := h
    exact ⟨hl, rfl, by simp, by simp⟩
  | [], _ :: _, as, z, vs, h, _, _, _, _ => by simp [argsAs] at h
  | _ :: _, [], as, z, vs, h, _, _, _, _ => by simp [argsAs] at h
  | v :: r, some t :: ps, as, z, vs, h, hl, hv, hz, hF => by
    simp only [argsAs] at h
    split at h
    · rename_i y z1 l z2 h1 h2 h3
      simp only [Option.some.injEq, Prod.mk.injEq] at h
      obtain ⟨rfl, rfl⟩ := h
      match vs, hl with
      | u :: vs, hl =>
        obtain ⟨i1, i2, i3, i4⟩ := argsAs_rel hs hS hw (vs := vs) h2 (by simpa using hl) (fun j v' u' a b => hv (j + 1) v' u' (by simpa using a) (by simpa using b)) (fun i hi => hz i (by simp [hi])) (fun i hi => hF i (by simp [hi]))
        refine ⟨by simp [i1], by simp [i2], fun j t' hj => ?_, fun j v' u' a b => ?_⟩
        · cases j with
          | zero => simp at hj; subst hj; exact ⟨y, rfl⟩
          | succ j => simp at hj; simpa using i3 j t' hj
        · cases j with
          | zero =>
            simp at a b; subst a; subst b
            exact ⟨h3, deepAs_VR hs hS hw (hv 0 u v rfl rfl) h1 (fun i hi => hz i (by simp [hi])) (fun i hi => hF i (by simp [hi]))⟩
          | succ j => simp at a b; exact i4 j v' u' a b
    · cases h
  | v :: r, none :: ps, as, z, vs, h, hl, hv, hz, hF => by
    simp only [argsAs] at h
    split at h
    · rename_i y z1 l z2 h1 h2
      simp only [Option.some.injEq, Prod.mk.injEq] at h
      obtain ⟨rfl, rfl⟩ := h
      match vs, hl with
      | u :: vs, hl =>
        obtain ⟨i1, i2, i3, i4⟩ := argsAs_rel hs hS hw (vs := vs) h2 (by simpa using hl) (fun j v' u' a b => hv (j + 1) v' u' (by simpa using a) (by simpa using b)) (fun i hi => hz i (by simp [hi])) (fun i hi => hF i (by simp [hi]))
        refine ⟨by simp [i1], by simp [i2], fun j t' hj => ?_, fun j v' u' a b => ?_⟩
        · cases j with
          | zero => simp at hj
          | succ j => simp at hj; simpa using i3 j t' hj
        · cases j with
          | zero =>
            simp at a b; subst a; subst b
            have := dv_VR hs hS hw (hv 0 u v rfl rfl) h1 (fun i hi => hz i (by simp [hi])) (fun i hi => hF i (by simp [hi]))
            exact ⟨this.2, this.1⟩
          | succ j => simp at a b; exact i4 j v' u' a b
    · cases h

section
variable {P : Program} {cx : Ctx} {o : Oper} {env : List V} {H : List Obj} {id : Nat} {K : Eff → Prop}

/-- What a call gives, said of a state. -/
def Gave (m : M) (e : Eff) (v : Value) (w' : World) : Prop := ∃ m' : M, m'.w = w' ∧ m'.H = ups m.H e.ups ∧ StR m' ∧ m.le m' ∧ VR m' v e.v

theorem OR_row_mono {m m' : M} {j id : Nat} {t : Ty} {l : List t.El} (h : OR m j (.row t l false)) (hρ : m'.ρ id = m.ρ j) (hw : m'.w = m.w) (hcr : ∀ {ds : List Value} {x : t.El}, CR m false t ds x → CR m' false t ds x) (hS : ∀ b, m'.S b → m.S b) : OR m' id (.row t l false) := by
  simp only [OR] at h ⊢
  rcases h with ⟨h1, h2⟩ | ⟨b, base, cap, r1, r2, r3, r4, r5, r6⟩
  · exact .inl ⟨h1, by rw [hρ]; exact h2⟩
  · refine .inr ⟨b, base, cap, by rw [hρ]; exact r1, by rw [hw]; exact r2, r3, r4, fun k hk => ?_, fun h => r6.1 (hS b h), by rw [hw]; exact r6.2⟩
    obtain ⟨ds, d1, d2, d3⟩ := r5 k hk
    exact ⟨ds, d1, by unfold At at *; rw [hw]; exact d2, hcr d3⟩

theorem OR_row_to {m2 m' : M} {j id : Nat} {t : Ty} {l : List t.El} (h : OR m2 j (.row t l false)) (hρ : m'.ρ id = m2.ρ j) (hw : m'.w = m2.w) (hcr : ∀ {ds : List Value} {x : t.El}, CR m2 false t ds x → CR m' false t ds x) (hS : ∀ b, m'.S b → m2.S b) : OR m' id (.row t l false) := by
  simp only [OR] at h ⊢
  rcases h with ⟨h1, h2⟩ | ⟨b, base, cap, r1, r2, r3, r4, r5, r6⟩
  · exact .inl ⟨h1, by rw [hρ]; exact h2⟩
  · refine .inr ⟨b, base, cap, by rw [hρ]; exact r1, by rw [hw]; exact r2, r3, r4, fun k hk => ?_, fun h => r6.1 (hS b h), by rw [hw]; exact r6.2⟩
    obtain ⟨ds, d1, d2, d3⟩ := r5 k hk
    exact ⟨ds, d1, by unfold At at *; rw [hw]; exact d2, hcr d3⟩

theorem VR_rf_to {m2 m' : M} {j id : Nat} {t : Ty} {l : List t.El} {v : Value} (h : VR m2 v ⟨.rf t, (j, none)⟩) (ho : m2.H.getD j .none = .row t l false) (ho' : m'.H.getD id .none = .row t l false) (hid : id < m'.H.length) (hρ : m'.ρ id = m2.ρ j) : VR m' v ⟨.rf t, (id, none)⟩ := by
  simp only [VR, Ty.isAgg, CR] at h ⊢
  obtain ⟨a, n, c, e, h1, h2, h3, h4⟩ := h
  refine ⟨a, n, c, e, h1, h2, hid, ?_⟩
  rw [ho'] ; rw [ho] at h4
  obtain ⟨_, h5, h6⟩ := h4
  exact ⟨rfl, h5, by rw [hρ]; exact h6⟩

theorem argsH_rel {m m' : M} (hs : StR m) (hS : ∀ b, m.S b → m'.S b) (hw : m'.w = m.w) (hmono : ∀ {v u}, VR m v u → VR m' v u) {H : List Obj} : ∀ {args : List V} {ps : List (Option Ty)} {as : List V} {z : List Nat} {vs : List Value}, argsH H args ps = some (as, z) → args.length = vs.length →
    (∀ (j : Nat) (v : Value) (u : V), vs[j]? = some v → args[j]? = some u → VR m v u) →
    (∀ i ∈ z, Sim (m.H.getD i .none) (H.getD i .none)) → (∀ i ∈ z, ∀ b base cap, m.ρ i = some (b, base, cap) → (m.H.getD i .none).live → m'.S b) →
    as.length = vs.length ∧ as.length = ps.length ∧ (∀ (j : Nat) (t : Ty), ps[j]? = some (some t) → ∃ y, as[j]? = some ⟨t, y⟩) ∧ ∀ (j : Nat) (v : Value) (u : V), vs[j]? = some v → as[j]? = some u → (u.t.deep = true ∨ u.t.refOk = true) ∧ VR m' v u
  | [], [], as, z, vs, h, hl, hv, hz, hF => by
    simp only [argsH, Option.some.injEq, Prod.mk.injEq] at h
    obtain ⟨rfl, rfl⟩ := h
    exact ⟨hl, rfl, by simp, by simp⟩
  | [], _ :: _, as, z, vs, h, _, _, _, _ => by simp [argsH] at h
  | _ :: _, [], as, z, vs, h, _, _, _, _ => by simp [argsH] at h
  | v :: r, some t :: ps, as, z, vs, h, hl, hv, hz, hF => by
    simp only [argsH] at h
    split at h
    · rename_i y z1 l z2 h1 h2 h3
      simp only [Option.some.injEq, Prod.mk.injEq] at h
      obtain ⟨rfl, rfl⟩ := h
      match vs, hl with
      | u :: vs, hl =>
        obtain ⟨i1, i2, i3, i4⟩ := argsH_rel hs hS hw hmono (vs := vs) h2 (by simpa using hl) (fun j v' u' a b => hv (j + 1) v' u' (by simpa using a) (by simpa using b)) (fun i hi => hz i (by simp [hi])) (fun i hi => hF i (by simp [hi]))
        refine ⟨by simp [i1], by simp [i2], fun j t' hj => ?_, fun j v' u' a b => ?_⟩
        · cases j with
          | zero => simp at hj; subst hj; exact ⟨y, rfl⟩
          | succ j => simp at hj; simpa using i3 j t' hj
        · cases j with
          | zero =>
            simp at a b; subst a; subst b
            exact ⟨.inl h3, deepAs_VR hs hS hw (hv 0 u v rfl rfl) h1 (fun i hi => hz i (by simp [hi])) (fun i hi => hF i (by simp [hi]))⟩
          | succ j => simp at a b; exact i4 j v' u' a b
    · cases h
  | v :: r, none :: ps, as, z, vs, h, hl, hv, hz, hF => by
    simp only [argsH] at h
    split at h
    · rename_i l z2 h1 h2
      simp only [Option.some.injEq, Prod.mk.injEq] at h
      obtain ⟨rfl, rfl⟩ := h
      match vs, hl with
      | u :: vs, hl =>
        obtain ⟨i1, i2, i3, i4⟩ := argsH_rel hs hS hw hmono (vs := vs) h2 (by simpa using hl) (fun j v' u' a b => hv (j + 1) v' u' (by simpa using a) (by simpa using b)) hz hF
        refine ⟨by simp [i1], by simp [i2], fun j t' hj => ?_, fun j v' u' a b => ?_⟩
        · cases j with
          | zero => simp at hj
          | succ j => simp at hj; simpa using i3 j t' hj
        · cases j with
          | zero =>
            simp at a b; subst a; subst b
            exact ⟨.inr h1, hmono (hv 0 u v rfl rfl)⟩
          | succ j => simp at a b; exact i4 j v' u' a b
    · cases h

theorem deep_refOk : ∀ {t : Ty}, t.deep = true → t.refOk = true
  | .unit, _ | .int _, _ | .bool, _ | .str, _ | .nilS, _ | .nilP, _ | .nilF, _ | .nilM, _ => rfl
  | .sl _, h | .arr _ _, h | .ip _, h => h
  | .pair a b, h => by
    simp only [Ty.deep, Bool.and_eq_true] at h
    simp only [Ty.refOk, Bool.and_eq_true]; exact ⟨deep_refOk h.1, deep_refOk h.2⟩
  | .fn _ c, h => by simp only [Ty.deep] at h; simp only [Ty.refOk]; exact deep_refOk h
  | .tup c, h => by simp only [Ty.deep] at h; simp only [Ty.refOk]; exact deep_refOk h
  | .rf _, h | .pt, h | .undef, h => by simp [Ty.deep] at h

theorem ups_miss {i : Nat} : ∀ {l : List (Nat × Obj)} {H : List Obj}, (∀ p ∈ l, p.1 ≠ i) → (ups H l).getD i .none = H.getD i .none
  | [], _, _ => rfl
  | (j, o) :: l, H, h => by
    simp only [ups]
    rw [ups_miss (fun p hp => h p (by simp [hp]))]
    have := h (j, o) (by simp)
    simp only [List.getD_eq_getElem?_getD, List.getElem?_set, if_neg this]

theorem backUps_mem {φ : Nat → Nat} : ∀ {s : List Nat} {H' : List Obj} {p : Nat × Obj}, p ∈ backUps φ s H' → ∃ k, k < s.length ∧ k < H'.length ∧ s.getD k 0 = p.1
  | [], H', p, h => by cases H' <;> simp [backUps] at h
  | _ :: _, [], p, h => by simp [backUps] at h
  | i :: s, o :: H', p, h => by
    simp only [backUps, List.mem_cons] at h
    rcases h with h | h
    · subst h; exact ⟨0, by simp, by simp, by simp⟩
    · obtain ⟨k, h1, h2, h3⟩ := backUps_mem h
      exact ⟨k + 1, by simpa using h1, by simpa using h2, by simpa using h3⟩

theorem backUps_hit {φ : Nat → Nat} : ∀ {s : List Nat} {H' : List Obj} {H : List Obj} {k : Nat}, s.Nodup → (∀ j ∈ s, j < H.length) → k < s.length → k < H'.length →
    (ups H (backUps φ s H')).getD (s.getD k 0) .none = renO φ (H'.getD k .none)
  | [], _, _, _, _, _, h, _ => by simp at h
  | _ :: _, [], _, _, _, _, _, h => by simp at h
  | j :: s, o :: H', H, k, hn, hs, h1, h2 => by
    simp only [backUps, ups]
    rw [List.nodup_cons] at hn
    cases k with
    | zero =>
      simp only [List.getD_cons_zero]
      rw [ups_miss (fun p hp e => by
        obtain ⟨k, q1, q2, q3⟩ := backUps_mem hp
        apply hn.1
        rw [← e, ← q3]; simp [List.getD, q1])]
      rw [getD_set (hs j (by simp))]; simp
    | succ k =>
      simp only [List.getD_cons_succ]
      exact backUps_hit hn.2 (fun x hx => by simpa using hs x (by simp [hx])) (by simpa using h1) (by simpa using h2)

theorem OR.renO {m m' : M} {i i' : Nat} {D : Nat → Prop} {φ : Nat → Nat} {o : Obj} (hw : m'.w = m.w) (hS : m'.S = m.S) (hρ : m'.ρ i' = m.ρ i) (hren : Ren m m' D φ) (hc : ∃ l, idsO o = some l ∧ ∀ j ∈ l, D j) (h : OR m i o) : OR m' i' (renO φ o) := by
  obtain ⟨l, hl, hls⟩ := hc
  have hcr : ∀ {t : Ty} {cs : List Value} {x : t.El}, t.refOk = true → (∀ i ∈ idsV t x, D i) → CR m false t cs x → CR m' false t cs (renV φ t x) := fun h1 h2 h3 =>
    CR.ren (fun b hb => by rw [hS]; exact hb) (fun b o v _ hv => by rw [hw]; exact hv) hren h1 h2 h3
  have hdp : ∀ {t : Ty} {cs : List Value} {x : t.El}, t.deep = true → CR m false t cs x → CR m' false t cs x := fun h1 h2 =>
    CR.deep (m := m) (m' := m') (fun b hb => by rw [hS]; exact hb) (fun b o v _ hv => by rw [hw]; exact hv) h1 h2
  have hwr : ∀ {fz : Bool} {b base n : Nat}, WR m fz b base n → WR m' fz b base n := by
    intro fz b base n h; unfold WR at *; rw [hw, hS]; exact h
  cases o with
  | none => trivial
  | free => simp [idsO] at hl
  | box v fz =>
    simp only [idsO] at hl
    split at hl
    · rename_i hrf
      simp only [Option.some.injEq] at hl; subst hl
      simp only [OR, Abs.renO] at h ⊢
      obtain ⟨b, base, cap, cs, r1, r2, r3, r4, r5⟩ := h
      exact ⟨b, base, cap, cs, by rw [hρ]; exact r1, by rw [hw]; exact r2, by unfold At at *; rw [hw]; exact r3, hcr hrf hls r4, hwr r5⟩
    · cases hl
  | row t l0 fz =>
    simp only [idsO] at hl
    split at hl
    · rename_i hd
      simp only [OR, Abs.renO] at h ⊢
      rcases h with ⟨h1, h2⟩ | ⟨b, base, cap, r1, r2, r3, r4, r5, r6⟩
      · exact .inl ⟨h1, by rw [hρ]; exact h2⟩
      · refine .inr ⟨b, base, cap, by rw [hρ]; exact r1, by rw [hw]; exact r2, r3, r4, fun k hk => ?_, hwr r6⟩
        obtain ⟨ds, d1, d2, d3⟩ := r5 k hk
        exact ⟨ds, d1, by unfold At at *; rw [hw]; exact d2, hdp hd d3⟩
    · cases hl

theorem live_renO {φ : Nat → Nat} {o : Obj} (h : o.live) : (renO φ o).live := by cases o <;> simp [renO, Obj.live] at h ⊢

theorem ups_same {i : Nat} : ∀ {l : List (Nat × Obj)} {A B : List Obj}, A.length = B.length → A.getD i .none = B.getD i .none → (ups A l).getD i .none = (ups B l).getD i .none
  | [], _, _, _, h => h
  | (j, o) :: l, A, B, hl, h => by
    simp only [ups]
    refine ups_same (by simpa using hl) ?_
    simp only [List.getD_eq_getElem?_getD, List.getElem?_set, ← hl] at h ⊢
    by_cases e : j = i
    · simp [e]
    · simp only [if_neg e]; exact h

theorem callH_fine {f : Nat} {hs : HSpec} {args : List V} (call : HCallOk P f hs) (det : hs.Det) (h : callH H id hs args K) :
    ∃ e, K e ∧ ∀ (m : M) (vs : List Value), StR m → args.length = vs.length → (∀ (j : Nat) (v : Value) (u : V), vs[j]? = some v → args[j]? = some u → VR m v u) → m.H.length = H.length →
      (∀ i ∈ e.rd, i < H.length ∧ m.H.getD i .none = H.getD i .none) → m.H[id]? = some .free → Does P f vs.toArray m.w (Gave m e) := by
  unfold callH at h
  split at h
  · exact h.elim
  rename_i as z has
  split at h
  · exact h.elim
  rename_i s hreach
  obtain ⟨hg, h⟩ := gd_true h
  simp only [Bool.and_eq_true, decide_eq_true_eq, rdOk, List.all_eq_true, Bool.not_eq_true', List.contains_eq_mem, decide_eq_false_iff_not] at hg
  obtain ⟨⟨hrd, hid⟩, hidz⟩ := hg
  obtain ⟨r, H', hK, hrun⟩ := det _ _ _ h
  obtain ⟨hg2, hK⟩ := gd_true hK
  simp only [closedH, Bool.and_eq_true, Bool.or_eq_true, decide_eq_true_eq, rdOk, List.all_eq_true] at hg2
  obtain ⟨⟨⟨hrr, hri⟩, hcl⟩, hlen'⟩ := hg2
  refine ⟨_, hK, fun m vs hs0 hl hv hlen hrdm hidf => ?_⟩
  obtain ⟨S', s1, s2, s3, s4⟩ := hs0.freezesL hlen (z := z) (fun i hi => hrdm i (by simp [hi]))
  obtain ⟨n1, n2, n3, n4⟩ := reach_spec hreach (by simp)
  have idlt : id < m.H.length := by
    rcases Nat.lt_or_ge id m.H.length with h | h
    · exact h
    · rw [List.getElem?_eq_none h] at hidf; cases hidf
  have hm1 : ∀ i ∈ s, (ups m.H (frzAll H z)).getD i .none = (ups H (frzAll H z)).getD i .none := fun i hi => ups_same hlen (hrdm i (by simp [hi])).2
  obtain ⟨a1, a2, a3, a4⟩ := argsH_rel (m' := ⟨m.ρ, ups m.H (frzAll H z), S', m.w⟩) hs0 s1 rfl (fun h => h.mono s3) has hl hv (fun i hi => .inl (hrdm i (by simp [hi])).2) s4
  have m1free : (ups m.H (frzAll H z))[id]? = some .free := ups_free hlen (fun i hi => hrdm i (by simp [hi])) hidf
  generalize hm1H : ups m.H (frzAll H z) = H1 at *
  have l1 : H1.length = m.H.length := by rw [← hm1H, ups_length]
  have hcs : ∀ i ∈ s, ∃ l, idsO (H1.getD i .none) = some l ∧ ∀ j ∈ l, j ∈ s := fun i hi => by
    rcases n4 i hi with h | h
    · cases h
    · rw [hm1 i hi]; exact h
  have hbs : ∀ i ∈ s, i < H1.length := fun i hi => by rw [l1, hlen]; exact hrd i hi
  have hM0 : StR (renM ⟨m.ρ, H1, S', m.w⟩ s) := s2.ren n1 hcs hbs
  have hMH : (renM ⟨m.ρ, H1, S', m.w⟩ s).H = s.map fun i => renO (renI s) ((ups H (frzAll H z)).getD i .none) := by
    simp only [renM]; exact List.map_congr_left fun i hi => by rw [hm1 i hi]
  have hMl : (renM ⟨m.ρ, H1, S', m.w⟩ s).H.length = s.length := by simp [renM]
  have hrefs : ∀ u ∈ as, ∀ i ∈ idsV u.t u.x, i ∈ s := fun u hu i hi => n3 i (by rw [List.mem_flatMap]; exact ⟨u, hu, hi⟩)
  have hcall := call (renM ⟨m.ρ, H1, S', m.w⟩ s) vs (as.map fun v => ⟨v.t, renV (renI s) v.t v.x⟩) (fun x y => x = r ∧ y = H') hM0 (fun i hi => by
      rw [renM_get (by rw [← hMl]; exact hi)]
      have : s.getD i 0 ∈ s := by rw [hMl] at hi; simp [List.getD, hi]
      obtain ⟨l, hl, _⟩ := hcs _ this
      intro h
      have hh : ∀ o : Obj, renO (renI s) o ≠ .free := by intro o; cases o <;> simp [renO]
      exact hh _ h) (by simpa using a1) (fun j v u hv' hu => by
      simp only [List.getElem?_map] at hu
      cases hj : as[j]? with
      | none => rw [hj] at hu; cases hu
      | some u0 =>
        rw [hj] at hu
        simp only [Option.map_some, Option.some.injEq] at hu; subst hu
        obtain ⟨g1, g2⟩ := a4 j v u0 hv' hj
        have hrf : u0.t.refOk = true := by rcases g1 with g | g; · exact deep_refOk g
                                           · exact g
        exact VR.ren hrf (fun i hi => hrefs u0 (List.mem_of_getElem? hj) i hi) g2) (by rw [hMH]; exact hrun)
  refine hcall.mono fun v w' ⟨r', m2, ⟨e1, e2⟩, e3, hle, hs2, hvr⟩ => ?_
  subst e1; subst e3; subst e2
  clear hcall hrun h hK
  -- the numbers
  have hnd : (s ++ [id]).Nodup := by
    rw [List.nodup_append]; exact ⟨n1, by simp, fun a ha b hb => by simp at hb; subst hb; exact fun e => hid (e ▸ ha)⟩
  have hsl : m2.H.length ≤ (s ++ [id]).length := by simp; omega
  have hps : s.length ≤ m2.H.length := by rw [← hMl]; exact hle.len
  have hlt : ∀ j ∈ s ++ [id], j < H1.length := fun j hj => by
    rcases List.mem_append.1 hj with h | h
    · exact hbs j h
    · simp at h; subst h; rw [l1]; exact idlt
  have hφm : ∀ k, k < m2.H.length → (s ++ [id]).getD k 0 ∈ s ++ [id] := fun k hk => by
    have : k < (s ++ [id]).length := Nat.lt_of_lt_of_le hk hsl
    simp only [List.getD, List.getElem?_eq_getElem this, Option.getD_some]; exact List.getElem_mem _
  have hinj : ∀ k k', k < m2.H.length → k' < m2.H.length → (s ++ [id]).getD k 0 = (s ++ [id]).getD k' 0 → k = k' := fun k k' hk hk' e => by
    have h1 : k < (s ++ [id]).length := Nat.lt_of_lt_of_le hk hsl
    have h2 : k' < (s ++ [id]).length := Nat.lt_of_lt_of_le hk' hsl
    simp only [List.getD, List.getElem?_eq_getElem h1, List.getElem?_eq_getElem h2, Option.getD_some] at e
    exact nodup_inj hnd h1 h2 e
  have hφs : ∀ k, k < s.length → (s ++ [id]).getD k 0 = s.getD k 0 := fun k hk => by
    simp only [List.getD, List.getElem?_append_left hk]
  have hφid : (s ++ [id]).getD s.length 0 = id := by simp [List.getD]
  -- the state behind the call
  have hex : ∃ ρ3 : Nat → Option (Nat × Nat × Nat), (∀ k, k < m2.H.length → ρ3 ((s ++ [id]).getD k 0) = m2.ρ k) ∧ ∀ i, (∀ k, k < m2.H.length → (s ++ [id]).getD k 0 ≠ i) → ρ3 i = m.ρ i := by
    classical
    refine ⟨fun i => if h : ∃ k, k < m2.H.length ∧ (s ++ [id]).getD k 0 = i then m2.ρ h.choose else m.ρ i, fun k hk => ?_, fun i hi => ?_⟩
    · have hh : ∃ k', k' < m2.H.length ∧ (s ++ [id]).getD k' 0 = (s ++ [id]).getD k 0 := ⟨k, hk, rfl⟩
      simp only [dif_pos hh]
      rw [hinj _ _ hh.choose_spec.1 hk hh.choose_spec.2]
    · exact dif_neg (fun ⟨k, hk, e⟩ => hi k hk e)
  obtain ⟨ρ3, hρ3, hρ3'⟩ := hex
  have H3l : (ups H1 (backUps (backI s id) (s ++ [id]) m2.H)).length = H1.length := by rw [ups_length]
  have hit : ∀ k, k < m2.H.length → (ups H1 (backUps (backI s id) (s ++ [id]) m2.H)).getD ((s ++ [id]).getD k 0) .none = renO (backI s id) (m2.H.getD k .none) := fun k hk =>
    backUps_hit hnd hlt (Nat.lt_of_lt_of_le hk hsl) hk
  have miss : ∀ i, (∀ k, k < m2.H.length → (s ++ [id]).getD k 0 ≠ i) → (ups H1 (backUps (backI s id) (s ++ [id]) m2.H)).getD i .none = H1.getD i .none := fun i hi =>
    ups_miss (fun p hp e => by obtain ⟨k, q1, q2, q3⟩ := backUps_mem hp; exact hi k q2 (q3.trans e))
  generalize hH3 : ups H1 (backUps (backI s id) (s ++ [id]) m2.H) = H3 at *
  have cases3 : ∀ i, (∃ k, k < m2.H.length ∧ (s ++ [id]).getD k 0 = i) ∨ (∀ k, k < m2.H.length → (s ++ [id]).getD k 0 ≠ i) := fun i => by
    by_cases h : ∃ k, k < m2.H.length ∧ (s ++ [id]).getD k 0 = i
    · exact .inl h
    · exact .inr fun k hk e => h ⟨k, hk, e⟩
  have own0 : ∀ b, Own (renM ⟨m.ρ, H1, S', m.w⟩ s) b → Own ⟨m.ρ, H1, S', m.w⟩ b := fun b ⟨k, k1, k2, base, cap, k3⟩ => by
    have hk : k < s.length := by rw [← hMl]; exact k1
    rw [renM_get hk] at k2
    exact ⟨s.getD k 0, hbs _ (by simp [List.getD, hk]), live_ren k2, base, cap, k3⟩
  have own3 : ∀ b, Own ⟨ρ3, H3, m2.S, m2.w⟩ b → Own m2 b ∨ Own ⟨m.ρ, H1, S', m.w⟩ b := fun b ⟨i, i1, i2, base, cap, i3⟩ => by
    simp only at i1 i2 i3
    rcases cases3 i with ⟨k, hk, rfl⟩ | hm
    · left
      rw [hit k hk] at i2
      rw [hρ3 k hk] at i3
      exact ⟨k, hk, live_ren i2, base, cap, i3⟩
    · right
      rw [miss i hm] at i2
      rw [hρ3' i hm] at i3
      exact ⟨i, by rw [← H3l]; exact i1, i2, base, cap, i3⟩
  -- a block of an object that was not handed
  have other : ∀ i, i < H1.length → i ∉ s → (H1.getD i .none).live → ∀ b base cap, m.ρ i = some (b, base, cap) → b < m.w.heap.size ∧ ¬ Own (renM ⟨m.ρ, H1, S', m.w⟩ s) b := fun i hi his hlv b base cap hb => by
    refine ⟨s2.block_lt (i := i) hi hlv hb, fun ⟨k, k1, k2, base', cap', k3⟩ => ?_⟩
    have hk : k < s.length := by rw [← hMl]; exact k1
    rw [renM_get hk] at k2
    have hks : s.getD k 0 ∈ s := by simp [List.getD, hk]
    exact s2.inj (s.getD k 0) i (hbs _ hks) hi (fun e => his (e ▸ hks)) (live_ren k2) hlv _ _ _ _ _ _ k3 hb rfl
  have notin : ∀ i, (∀ k, k < m2.H.length → (s ++ [id]).getD k 0 ≠ i) → i ∉ s := fun i hi h => by
    obtain ⟨g1, g2⟩ := idx_get h
    exact hi (s.idxOf i) (Nat.lt_of_lt_of_le g1 hps) (by rw [hφs _ g1]; exact g2)
  have fr0 := hle.fr
  have le3 : M.le ⟨m.ρ, H1, S', m.w⟩ ⟨ρ3, H3, m2.S, m2.w⟩ := by
    refine ⟨⟨fr0.1, fun b hb ho => ?_⟩, hle.S, hle.cell, by rw [H3l]; exact Nat.le_refl _, fun i hi => ?_, fun i hi => ?_, ⟨hle.kept.1, fun b hb ho => hle.kept.2 b hb (fun h => ho (own0 b h))⟩⟩
    · obtain ⟨g1, g2, g3, g4⟩ := fr0.2 b hb (fun h => ho (own0 b h))
      exact ⟨fun h => (own3 b h).elim g1 ho, g2, g3, g4⟩
    · show H1.getD i .none = .free ∨ H3.getD i .none = .none ∨ RStep (H1.getD i .none) (m.ρ i) (ρ3 i)
      rcases cases3 i with ⟨k, hk, rfl⟩ | hm
      · by_cases hks : k < s.length
        · have hk0 : k < (renM ⟨m.ρ, H1, S', m.w⟩ s).H.length := by rw [hMl]; exact hks
          have := hle.rho k hk0
          rw [renM_get hks] at this
          rw [hit k hk, hρ3 k hk, hφs k hks]
          rcases this with h | h | h
          · have hh : ∀ o : Obj, renO (renI s) o ≠ .free := by intro o; cases o <;> simp [renO]
            exact absurd h (hh _)
          · right; left; rw [h]; rfl
          · right; right; exact h.renl
        · have : k = s.length := by simp at hsl; omega
          subst this
          left; rw [hφid]; simp [List.getD, m1free]
      · right; right; rw [hρ3' i hm]; exact RStep.refl _ _
    · show OStep (H1.getD i .none) (H3.getD i .none)
      rcases cases3 i with ⟨k, hk, rfl⟩ | hm
      · by_cases hks : k < s.length
        · have hk0 : k < (renM ⟨m.ρ, H1, S', m.w⟩ s).H.length := by rw [hMl]; exact hks
          have := hle.obj k hk0
          rw [renM_get hks] at this
          rw [hit k hk, hφs k hks]
          refine (OStep.renl this).renr ?_
          obtain ⟨l, hl, _⟩ : ∃ l, idsO (m2.H.getD k .none) = some l ∧ True := by
            have := hcl (m2.H.getD k .none) (by simp [List.getD, hk])
            split at this
            · exact ⟨_, by assumption, trivial⟩
            · cases this
          intro h; rw [h] at hl; cases hl
        · have : k = s.length := by simp at hsl; omega
          subst this
          rw [hφid]
          have : H1.getD id .none = .free := by simp [List.getD, m1free]
          rw [this]; trivial
      · rw [miss i hm]; exact OStep.refl _
  have hcl' : ∀ k, k < m2.H.length → ∃ l, idsO (m2.H.getD k .none) = some l ∧ ∀ j ∈ l, j < m2.H.length := fun k hk => by
    have := hcl (m2.H.getD k .none) (by simp [List.getD, hk])
    split at this
    · rename_i l hl; exact ⟨l, hl, by simpa [rdOk] using this⟩
    · cases this
  have hren : Ren m2 ⟨ρ3, H3, m2.S, m2.w⟩ (· < m2.H.length) (backI s id) := fun k hk => ⟨hit k hk, hρ3 k hk, by show _ < H3.length; rw [H3l]; exact hlt _ (hφm k hk)⟩
  have str3 : StR ⟨ρ3, H3, m2.S, m2.w⟩ := by
    refine ⟨fun i hi => ?_, fun i j hi hj hij li lj b base cap b' base' cap' ri rj => ?_, hs2.bd⟩
    · show OR _ i (H3.getD i .none)
      rcases cases3 i with ⟨k, hk, rfl⟩ | hm
      · rw [hit k hk]
        exact OR.renO (m := m2) (m' := ⟨ρ3, H3, m2.S, m2.w⟩) rfl rfl (hρ3 k hk) hren (hcl' k hk) (hs2.ok k hk)
      · rw [miss i hm]
        have hi1 : i < H1.length := by rw [← H3l]; exact hi
        have hor := s2.ok i hi1
        by_cases hlv : (H1.getD i .none).live
        · refine OR.go le3 (hρ3' i hm) fr0.1 (fun b base cap hb hlt' => ?_) hor
          obtain ⟨g1, g2⟩ := other i hi1 (notin i hm) hlv b base cap hb
          obtain ⟨_, q2, q3, q4⟩ := fr0.2 b g1 g2
          exact ⟨q2, q3, fun hn h => hn (q4 h)⟩
        · generalize H1.getD i .none = ob at hlv
          cases ob <;> simp [Obj.live] at hlv <;> trivial
    · simp only at ri rj li lj hi hj
      intro hbb
      subst hbb
      rcases cases3 i with ⟨k, hk, rfl⟩ | hm <;> rcases cases3 j with ⟨k', hk', rfl⟩ | hm'
      · rw [hit k hk] at li; rw [hit k' hk'] at lj
        rw [hρ3 k hk] at ri; rw [hρ3 k' hk'] at rj
        exact hs2.inj k k' hk hk' (fun e => hij (by rw [e])) (live_ren li) (live_ren lj) _ _ _ _ _ _ ri rj rfl
      · rw [hit k hk] at li; rw [miss j hm'] at lj
        rw [hρ3 k hk] at ri; rw [hρ3' j hm'] at rj
        obtain ⟨g1, g2⟩ := other j (by rw [← H3l]; exact hj) (notin j hm') lj _ _ _ rj
        exact (fr0.2 _ g1 g2).1 ⟨k, hk, live_ren li, _, _, ri⟩
      · rw [miss i hm] at li; rw [hit k' hk'] at lj
        rw [hρ3' i hm] at ri; rw [hρ3 k' hk'] at rj
        obtain ⟨g1, g2⟩ := other i (by rw [← H3l]; exact hi) (notin i hm) li _ _ _ ri
        exact (fr0.2 _ g1 g2).1 ⟨k', hk', live_ren lj, _, _, rj⟩
      · rw [miss i hm] at li; rw [miss j hm'] at lj
        rw [hρ3' i hm] at ri; rw [hρ3' j hm'] at rj
        exact s2.inj i j (by rw [← H3l]; exact hi) (by rw [← H3l]; exact hj) hij li lj _ _ _ _ _ _ ri rj rfl
  refine ⟨⟨ρ3, H3, m2.S, m2.w⟩, rfl, by show H3 = ups m.H (_ ++ _); rw [ups_append, hm1H, hH3], str3, s3.trans le3, ?_⟩
  unfold VR at hvr ⊢
  have hcr : ∀ {cs : List Value}, CR m2 false r'.t cs r'.x → CR ⟨ρ3, H3, m2.S, m2.w⟩ false r'.t cs (renV (backI s id) r'.t r'.x) := fun h =>
    CR.ren (m := m2) (m' := ⟨ρ3, H3, m2.S, m2.w⟩) (fun _ h => h) (fun _ _ _ _ h => h) hren hrr (fun i hi => hri i hi) h
  cases hu : r'.t.isAgg <;> simp only [hu] at hvr ⊢
  · exact hcr hvr
  · obtain ⟨cs, e, h⟩ := hvr; exact ⟨cs, e, hcr h⟩

theorem callF_fine (hcalls : CallsOk P cx) (hdet : CallsDet cx) {f : Nat} {args : List V} (h : callF cx H id f args K) :
    ∃ e, K e ∧ ∀ (m : M) (vs : List Value), StR m → args.length = vs.length → (∀ (j : Nat) (v : Value) (u : V), vs[j]? = some v → args[j]? = some u → VR m v u) → m.H.length = H.length →
      (∀ i ∈ e.rd, i < H.length ∧ m.H.getD i .none = H.getD i .none) → m.H[id]? = some .free → Does P f vs.toArray m.w (Gave m e) := by
  unfold callF at h
  split at h
  · split at h
    · exact h.elim
    · rename_i s hf; exact callH_fine (hcalls.h f s hf) (hdet.h f s hf) h
  · rename_i s hf
    split at h
    · exact h.elim
    · rename_i as z has
      obtain ⟨r, hK, hrun⟩ := hdet.c f s hf _ _ h
      have call := hcalls.c f s hf
      have base : ∀ (m : M) (vs : List Value), StR m → args.length = vs.length → (∀ (j : Nat) (v : Value) (u : V), vs[j]? = some v → args[j]? = some u → VR m v u) → m.H.length = H.length →
          (∀ i ∈ z, i < H.length ∧ m.H.getD i .none = H.getD i .none) →
          ∃ S' : Nat → Prop, (∀ b, m.S b → S' b) ∧ StR ⟨m.ρ, ups m.H (frzAll H z), S', m.w⟩ ∧ m.le ⟨m.ρ, ups m.H (frzAll H z), S', m.w⟩ ∧ Does P f vs.toArray m.w (Res S' m.w s fun x => x = r) := by
        intro m vs hs hl hv hlen hz
        obtain ⟨S', s1, s2, s3, s4⟩ := hs.freezesL hlen (z := z) hz
        obtain ⟨a1, a2, a3, a4⟩ := argsAs_rel (m' := ⟨fun _ => none, [], S', m.w⟩) hs s1 rfl has hl hv (fun i hi => .inl (hz i hi).2) s4
        exact ⟨S', s1, s2, s3, call S' m.w vs as _ s2.bd a1 a2 a3 a4 hrun⟩
      cases hown : s.own
      · simp only [hown] at hK
        refine ⟨_, hK, fun m vs hs hl hv hlen hrd hid => ?_⟩
        obtain ⟨S', s1, s2, s3, hd⟩ := base m vs hs hl hv hlen hrd
        refine hd.mono fun v w' hres => ?_
        obtain ⟨_, m2, rfl, rfl, hext, hs2, hres⟩ := hres
        simp only [hown] at hres
        obtain ⟨hH, hdp, hfl, hvr⟩ := hres
        cases hflat : s.flat
        · obtain ⟨q1, q2⟩ := s2.ext (w' := m2.w) (S2 := m2.S) hext.size hext.S (fun b hb => (hext.old b hb).2) hs2.bd ⟨hext.io, hext.blk⟩
          refine ⟨⟨m.ρ, ups m.H (frzAll H z), m2.S, m2.w⟩, rfl, rfl, q1, s3.trans q2, ?_⟩
          exact VR.deep (m := m2) (m' := ⟨m.ρ, ups m.H (frzAll H z), m2.S, m2.w⟩) (fun _ h => h) (fun _ _ _ _ h => h) hdp hvr
        · obtain ⟨q1, q2⟩ := hs.ext (w' := m2.w) (S2 := m.S) hext.size (fun _ h => h) (fun b hb => ⟨(hext.old b hb).2.1, (hext.old b hb).2.2.1, fun h => h⟩) (fun b hb => Nat.lt_of_lt_of_le (hs.bd b hb) hext.size) ⟨hext.io, hext.blk⟩
          exact ⟨⟨m.ρ, m.H, m.S, m2.w⟩, rfl, rfl, q1, q2, VR.flat (m := m2) (hfl hflat) hvr⟩
      · simp only [hown] at hK
        obtain ⟨rt, rx⟩ := r
        split at hK
        · rename_i t l hr
          refine ⟨_, hK, fun m vs hs hl hv hlen hrd hid => ?_⟩
          obtain ⟨S', s1, s2, s3, hd⟩ := base m vs hs hl hv hlen hrd
          refine hd.mono fun v w' hres => ?_
          obtain ⟨_, m2, e0, rfl, hext, hs2, hres⟩ := hres
          simp only [hown] at hres
          obtain ⟨t', l', e1, hdp, hfl, hH, hvr⟩ := hres
          rw [e1] at e0
          rw [hr] at e0
          injection e0 with e2 e3
          injection e2 with e2
          subst e2
          have e3 := eq_of_heq e3
          subst e3
          have hor2 := hs2.ok 0 (by rw [hH]; simp)
          have ho2 : m2.H.getD 0 .none = .row t' l' false := by rw [hH]; rfl
          rw [ho2] at hor2
          have hblk : ∀ b base c, m2.ρ 0 = some (b, base, c) → m.w.heap.size ≤ b := fun b base c hb => by
            rcases Nat.lt_or_ge b m.w.heap.size with h | h
            · exact absurd ⟨0, by rw [hH]; simp, by rw [ho2]; trivial, base, c, hb⟩ (hext.old b h).1
            · exact h
          have hlt : id < m.H.length := by
            rcases Nat.lt_or_ge id m.H.length with h | h
            · exact h
            · rw [List.getElem?_eq_none h] at hid; cases hid
          cases hflat : s.flat
          · obtain ⟨q1, q2⟩ := s2.layS (w' := m2.w) (S2 := m2.S) hext.size hext.S (fun b hb => (hext.old b hb).2) hs2.bd ⟨hext.io, hext.blk⟩ (id := id) (ups_free hlen hrd hid) (ob := .row t' l' false) (r := m2.ρ 0) hblk
              (fun _ => OR_row_to hor2 (by simp) rfl (fun hc => by
                refine CR.deep (m := m2) ?_ ?_ hdp hc
                · exact fun _ h => h
                · exact fun _ _ _ _ h => h) (fun _ h => h))
            refine ⟨⟨fun j => if j = id then m2.ρ 0 else m.ρ j, (ups m.H (frzAll H z)).set id (.row t' l' false), m2.S, m2.w⟩, rfl, ?_, q1, s3.trans q2, ?_⟩
            · simp only [ups_append, ups]
            · refine VR_rf_to hvr ho2 ?_ (by simp [ups_length]; exact hlt) (by simp)
              show ((ups m.H (frzAll H z)).set id _).getD id .none = _
              rw [getD_set (by rw [ups_length]; exact hlt)]; simp
          · obtain ⟨q1, q2⟩ := hs.layS (w' := m2.w) (S2 := m.S) hext.size (fun _ h => h) (fun b hb => ⟨(hext.old b hb).2.1, (hext.old b hb).2.2.1, fun h => h⟩) (fun b hb => Nat.lt_of_lt_of_le (hs.bd b hb) hext.size) ⟨hext.io, hext.blk⟩ (id := id) hid (ob := .row t' l' false) (r := m2.ρ 0) hblk
              (fun _ => OR_row_to hor2 (by simp) rfl (fun hc => CR.flat (m := m2) (hfl hflat) hc) (fun b h => hext.S b (s1 b h)))
            refine ⟨⟨fun j => if j = id then m2.ρ 0 else m.ρ j, m.H.set id (.row t' l' false), m.S, m2.w⟩, rfl, ?_, q1, q2, ?_⟩
            · simp only [frzAll, List.map_nil, List.nil_append, ups]
            · refine VR_rf_to hvr ho2 ?_ (by simp; exact hlt) (by simp)
              show (m.H.set id _).getD id .none = _
              rw [getD_set hlt]; simp
        · exact hK.elim

end
end Go.Abs
