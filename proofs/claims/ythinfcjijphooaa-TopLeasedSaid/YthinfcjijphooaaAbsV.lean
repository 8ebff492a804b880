/- Functions keep their contracts. -/
import Derived.Test.YthinfcjijphooaaAbsU
namespace Go.Abs
set_option linter.unusedVariables false
set_option linter.unusedSimpArgs false
open Go

section
variable {P : Program} {cx : Ctx}

theorem mapM_res (hcx : CxOk P cx) {m : M} (hs : StR m) {H : List Obj} (hH : m.H = H) {env : List V} {tmps : Array Value} (henv : ∀ (i : Nat) (v : V), env[i]? = some v → VR m (tmps.getD i undef) v) : ∀ {rs : List ResultVar} {vs : List V}, resV cx H env rs = some vs →
    ∃ us : List Value, us.length = vs.length ∧ us.length = rs.length ∧
      (∀ F : ResultVar → Sem Value, (∀ t, F (.tmp t) = pure (tmps.getD t undef)) → (∀ a t, F (.cell a t) = (do loadVar t (← asAddr (tmps.getD a undef)))) → (rs.mapM F).run P m.w = .ok us m.w) ∧
      ∀ (j : Nat) (v : V) (u : Value), vs[j]? = some v → us[j]? = some u → VR m u v
  | [], vs, h => by
    simp only [resV, Option.some.injEq] at h; subst h
    exact ⟨[], rfl, rfl, fun F _ _ => by simp, by simp⟩
  | .tmp t :: r, vs, h => by
    simp only [resV] at h
    split at h
    · rename_i v l h1 h2
      simp only [Option.some.injEq] at h; subst h
      obtain ⟨us, g1, g2, g3, g4⟩ := mapM_res hcx hs hH henv h2
      refine ⟨tmps.getD t undef :: us, by simp [g1], by simp [g2], fun F hF hC => ?_, fun j v' u hv hu => ?_⟩
      · rw [List.mapM_cons, hF]; simp only [Sem.run_bind, Sem.run_pure, Result.andThen_ok, g3 F hF hC]
      · cases j with
        | zero =>
          simp only [List.getElem?_cons_zero, Option.some.injEq] at hv hu
          subst hv; subst hu; exact henv t v h1
        | succ j => simp at hv hu; exact g4 j v' u hv hu
    · cases h
  | .cell a t :: r, vs, h => by
    simp only [resV] at h
    split at h
    · rename_i i path ha
      split at h
      · rename_i u hu
        split at h
        · rename_i l hf h2
          simp only [Option.some.injEq] at h; subst h
          obtain ⟨us, g1, g2, g3, g4⟩ := mapM_res hcx hs hH henv h2
          obtain ⟨f1, f2, _⟩ := fits_run hcx hf
          obtain ⟨b, of, e, hi, hor⟩ := VR.pt (henv a _ ha)
          simp only at hi hor
          rw [← hH] at hu
          rcases hor with hor | ⟨hok, base, cap, hρ, rfl⟩
          · rw [hor] at hu; simp [loadO, getO] at hu
          · obtain ⟨c, c1, c2, c3⟩ := load_key hs hu hi hok hρ
            obtain ⟨v, r1, r2⟩ := run_loadVar_at (P := P) f1 f2 c1 c2 c3
            refine ⟨v :: us, by simp [g1], by simp [g2], fun F hF hC => ?_, fun j v' u' hv hu' => ?_⟩
            · rw [List.mapM_cons, hC, e]; simp [asAddr, r1, g3 F hF hC]
            · cases j with
              | zero =>
                simp only [List.getElem?_cons_zero, Option.some.injEq] at hv hu'
                subst hv; subst hu'; exact r2
              | succ j => simp at hv hu'; exact g4 j v' u' hv hu'
        · cases h
      · cases h
    · cases h

theorem results_run (hcx : CxOk P cx) {m : M} (hs : StR m) {H : List Obj} (hH : m.H = H) {fn : Func} {env : List V} {tmps : Array Value} (henv : ∀ (i : Nat) (v : V), env[i]? = some v → VR m (tmps.getD i undef) v) {vs : List V} (h : resV cx H env fn.results.toList = some vs) :
    ∃ v, (results fn tmps).run P m.w = .ok v m.w ∧ VR m v (resT vs) := by
  obtain ⟨us, g1, g2, g3, hr⟩ := mapM_res hcx hs hH henv h
  refine ⟨if h : us.toArray.size = 1 then us.toArray[0] else .tuple us.toArray, ?_, ?_⟩
  · unfold results
    rw [Array.mapM_eq_mapM_toList]
    simp only [Sem.run_bind, Sem.run_map]
    rw [g3 _ (fun t => rfl) (fun a t => rfl)]
    rfl
  · match us, vs, g1, hr with
    | [], [], _, hr =>
      simp only [resT, VR, Ty.isAgg, CR]
      exact ⟨#[], rfl, by simp [tupOf, CR]⟩
    | [u], [v], _, hr => exact hr 0 v u rfl rfl
    | u :: u' :: us, v :: v' :: vs, g1, hr =>
      simp only [resT, VR, Ty.isAgg, CR]
      refine ⟨(u :: u' :: us).toArray, by simp, ?_⟩
      exact tupOf_rel (xs := []) (fun j v u h1 h2 => hr j v u h1 (by simpa using h2)) (by simpa using g1.symm)

theorem dvT_VR {m m' : M} (hs : StR m) (hS : ∀ b, m.S b → m'.S b) (hw : m'.w = m.w) {H : List Obj} {rt : Option Ty} {v : Value} {x u : V} {z : List Nat} (h : VR m v x) (hd : dvT H rt x = some (u, z))
    (hrd : ∀ i ∈ z, Sim (m.H.getD i .none) (H.getD i .none)) (hF : ∀ i ∈ z, ∀ b base cap, m.ρ i = some (b, base, cap) → (m.H.getD i .none).live → m'.S b) : VR m' v u ∧ u.t.deep = true := by
  unfold dvT at hd
  split at hd
  · exact dv_VR hs hS hw h hd hrd hF
  · split at hd
    · rename_i t _ y z' h1 h2
      simp only [Option.some.injEq, Prod.mk.injEq] at hd
      obtain ⟨rfl, rfl⟩ := hd
      exact ⟨deepAs_VR hs hS hw h h1 hrd hF, h2⟩
    · cases hd

theorem StR.nil (S : Nat → Prop) (w : World) (ρ : Nat → Option (Nat × Nat × Nat)) (hS : ∀ b, S b → b < w.heap.size) : StR ⟨ρ, [], S, w⟩ :=
  ⟨fun i hi => by simp at hi, fun i j hi => by simp at hi, hS⟩

theorem Ext0.drop {S0 : Nat → Prop} {w0 : World} {m : M} (h : Ext0 S0 w0 m) (ρ : Nat → Option (Nat × Nat × Nat)) : Ext0 S0 w0 ⟨ρ, [], m.S, m.w⟩ :=
  ⟨h.size, h.S, h.io, h.blk, fun b hb => ⟨fun ⟨j, j1, _⟩ => by simp at j1, (h.old b hb).2⟩⟩
theorem Ext0.step {S0 : Nat → Prop} {w0 : World} {m m' : M} (h : Ext0 S0 w0 m) (hle : m.le m') : Ext0 S0 w0 m' where
  size := Nat.le_trans h.size hle.fr.1
  S := fun b hb => hle.S _ (h.S b hb)
  io := ⟨hle.kept.1.1.trans h.io.1, hle.kept.1.2.1.trans h.io.2.1, hle.kept.1.2.2.trans h.io.2.2⟩
  blk := fun b hb => (hle.kept.2 b (Nat.lt_of_lt_of_le hb h.size) (h.old b hb).1).trans (h.blk b hb)
  old := fun b hb => by
    obtain ⟨h1, h2, h3, h4⟩ := h.old b hb
    obtain ⟨g1, g2, g3, g4⟩ := hle.fr.2 b (Nat.lt_of_lt_of_le hb h.size) h1
    exact ⟨g1, fun o => (g2 o).trans (h2 o), fun o => (g3 o).trans (h3 o), fun hs => h4 (g4 hs)⟩

theorem finK_res (hcx : CxOk P cx) {fn : Func} {s : Spec} {rt : Option Ty} {K : V → Prop} {S : Nat → Prop} {w0 : World} {x : Xt} {st : St} {a : Act} {w : World} (h : finK cx fn.results.toList s.own s.flat rt K x st) (hh : Holds ⟨fun _ => none, [], S, w0⟩ st a w) :
    ∃ v, (results fn a.tmps).run P w = .ok v w ∧ Res S w0 s K v w := by
  obtain ⟨m, rfl, hr, he'⟩ := hh
  have he := Ext0.of he'
  have hfin : finR cx fn.results.toList s.own s.flat rt K st := by
    cases x with
    | out i => exact h.elim
    | norm => exact h
    | ret => exact h
  clear h
  unfold finR at hfin
  obtain ⟨vs, hvs, h⟩ := optK_some hfin
  clear hfin
  obtain ⟨v, r1, hv⟩ := results_run (P := P) hcx hr.str hr.H hr.env hvs
  refine ⟨v, r1, ?_⟩
  unfold Res
  cases hown : s.own
  · simp only [hown] at h
    obtain ⟨⟨u, z⟩, hd, h⟩ := optK_some h
    obtain ⟨hg, h⟩ := gd_true h
    simp only [Bool.and_eq_true, rdOk, List.all_eq_true, decide_eq_true_eq] at hg
    obtain ⟨S', q1, q2, q3, q4⟩ := hr.str.freezesL (H0 := st.H) (by rw [hr.H]) (z := z) (fun i hi => ⟨hg.1 i hi, by rw [hr.H]⟩)
    obtain ⟨g1, g2⟩ := dvT_VR (m' := ⟨fun _ => none, [], S', m.w⟩) hr.str q1 rfl hv hd (fun i hi => .inl (by rw [hr.H])) q4
    refine ⟨u, ⟨fun _ => none, [], S', m.w⟩, h, rfl, (he.step q3).drop _, StR.nil _ _ _ q2.bd, rfl, g2, fun hf => ?_, g1⟩
    have := hg.2
    rw [hf] at this; simpa using this
  · simp only [hown] at h
    split at h
    · rename_i t i hrt
      split at h
      · rename_i u l hob
        obtain ⟨hg, hK⟩ := gd_true h
        simp only [Bool.and_eq_true, decide_eq_true_eq] at hg
        obtain ⟨⟨rfl, hdp⟩, hfl⟩ := hg
        have hi : i < m.H.length := by
          rw [hr.H]
          rcases Nat.lt_or_ge i st.H.length with h | h
          · exact h
          · rw [List.getElem?_eq_none h] at hob; cases hob
        have ho : m.H.getD i .none = .row u l false := by rw [hr.H]; exact getD_of_getElem? hob
        have hor := hr.str.ok i hi
        rw [ho] at hor
        rw [hrt] at hv
        refine ⟨⟨.sl u, l⟩, ⟨fun _ => m.ρ i, [.row u l false], m.S, m.w⟩, hK, rfl, ⟨he.size, he.S, he.io, he.blk, fun b hb => ⟨fun ⟨j, j1, j2, base, cap, j3⟩ => (he.old b hb).1 ⟨i, hi, by rw [ho]; trivial, base, cap, j3⟩, (he.old b hb).2⟩⟩, ⟨fun j hj => ?_, fun j k hj hk hjk => ?_, hr.str.bd⟩, u, l, rfl, hdp, fun hf => ?_, rfl, ?_⟩
        · have : j = 0 := by simpa using hj
          subst this
          exact OR_row_to hor rfl rfl (fun hc => CR.deep (m := m) (m' := ⟨fun _ => m.ρ i, [.row u l false], m.S, m.w⟩) (fun _ h => h) (fun _ _ _ _ h => h) hdp hc) (fun _ h => h)
        · simp at hj hk; omega
        · rw [hf] at hfl; simpa using hfl
        · exact VR_rf_to hv ho rfl (by simp) rfl
      · exact h.elim
    · rename_i hrt
      split at h
      · rename_i t
        obtain ⟨hg, h⟩ := gd_true h
        simp only [Bool.and_eq_true] at hg
        rw [hrt] at hv
        have := VR.nilS hv
        subst this
        refine ⟨⟨.sl t, []⟩, ⟨fun _ => none, [.row t [] false], m.S, m.w⟩, h, rfl, ⟨he.size, he.S, he.io, he.blk, fun b hb => ⟨fun ⟨j, j1, j2, base, cap, j3⟩ => by simp at j3, (he.old b hb).2⟩⟩, ⟨fun j hj => ?_, fun j k hj hk hjk => ?_, hr.str.bd⟩, t, [], rfl, hg.1, fun hf => ?_, rfl, ?_⟩
        · have : j = 0 := by simpa using hj
          subst this
          simp [OR, List.getD]
        · simp at hj hk; omega
        · have := hg.2; rw [hf] at this; simpa using this
        · simp only [VR, Ty.isAgg, CR]
          refine ⟨_, _, _, rfl, Nat.le_refl _, by simp, by simp, ?_⟩
          simp [List.getD]
      · exact h.elim
    · exact h.elim

/-- A value that a run may hand on. -/
def Wf (u : V) : Prop := ∃ m v, VR m v u

theorem callOk_of_exec (hpin : cx.pin = 0) (hm : P.follows .mixedOrders = true) (hcx : CxOk P cx) (hcalls : CallsOk P cx) (hdet : CallsDet cx) {f : FuncId} {fn : Func} {c : Code} (hf : P.funcs[f]? = some fn) (hb : fn.body = some c)
    (hname : fn.name ≠ "runtime.NumGoroutine") {s : Spec} {mt : MT} {rt : Option Ty} (hob : ∀ o ∈ obls c mt, Ob.ok cx o)
    (hrun : ∀ as K, as.length = s.params.length → (∀ (j : Nat) (t : Ty), s.params[j]? = some (some t) → ∃ y, as[j]? = some ⟨t, y⟩) → (∀ u ∈ as, u.t.deep = true ∧ Wf u) → s.run as K → exec cx c mt (finK cx fn.results.toList s.own s.flat rt K) ⟨env0 as fn.ntmps, []⟩) : CallOk P f s := by
  intro S w vs as K hS hl hp hty hrel hrunK
  left
  refine ⟨by simp only [callFunc]; simp [hf, hname, hb], ?_⟩
  have hh : Holds ⟨fun _ => none, [], S, w⟩ ⟨env0 as fn.ntmps, []⟩ { tmps := vs.toArray ++ Array.replicate (fn.ntmps - vs.toArray.size) undef, defers := [] } w := by
    refine ⟨⟨fun _ => none, [], S, w⟩, rfl, ⟨StR.nil _ _ _ hS, rfl, by simp [env0, hl], rfl, fun i v hi => ?_⟩, M.le.refl _⟩
    simp only [env0] at hi
    rw [List.getElem?_append] at hi
    split at hi
    · rename_i hlt
      have : (vs.toArray ++ Array.replicate (fn.ntmps - vs.toArray.size) undef).getD i undef = vs[i]'(by omega) := by
        rw [Array.getD_eq_getD_getElem?, Array.getElem?_append_left (by simp; omega)]; simp [show i < vs.length by omega]
      rw [this]
      exact (hrel i _ v (by simp [show i < vs.length by omega]) hi).2
    · rw [List.getElem?_replicate] at hi
      split at hi
      · simp only [Option.some.injEq] at hi; subst hi; exact VR.undef _ _
      · cases hi
  refine calls_of_wp hf hb (wp_mono (exec_sound (M0 := ⟨fun _ => none, [], S, w⟩) (by rw [hpin]; rfl) hm hcx hcalls hdet c hob (hrun as K hp hty (fun u hu => by
    obtain ⟨j, hj, rfl⟩ := List.mem_iff_getElem.1 hu
    have := hrel j (vs[j]'(by omega)) as[j] (by simp [show j < vs.length by omega]) (by simp [hj])
    exact ⟨this.1, _, _, this.2⟩) hrunK) hh) fun e a' w' ⟨xt, st', hx, hK, hh'⟩ => ?_)
  obtain ⟨v, r1, r2⟩ := finK_res (P := P) hcx hK hh'
  have hd : a'.defers = [] := by obtain ⟨m, _, hr, _⟩ := hh'; exact hr.defers
  cases e <;> cases xt <;> simp only [XR] at hx
  · exact bodyPost_end r1 hd ⟨v, rfl, r2⟩
  · exact hK.elim
  · exact bodyPost_ret r1 hd ⟨v, rfl, r2⟩


/-- The end of a function that was handed objects. -/
def finH (cx : Ctx) (rs : List ResultVar) (md : Md) (K : V → List Obj → Prop) : XK := fun x st =>
  match x with
  | .out _ => False
  | _ => optK (resV cx st.H st.env rs) fun vs => optK (gcS cx.pin [(0, md)] ⟨[resT vs], st.H⟩) fun st2 => optK st2.env[0]? fun r => K r st2.H

theorem finH_res (hcx : CxOk P cx) {M0 : M} (hpin : M0.H.length = cx.pin) {fn : Func} {md : Md} {K : V → List Obj → Prop} {x : Xt} {st : St} {a : Act} {w : World} (h : finH cx fn.results.toList md K x st) (hh : Holds M0 st a w) :
    ∃ v, (results fn a.tmps).run P w = .ok v w ∧ ResH M0 K v w := by
  obtain ⟨m, rfl, hr, he⟩ := hh
  have h : optK (resV cx st.H st.env fn.results.toList) fun vs => optK (gcS cx.pin [(0, md)] ⟨[resT vs], st.H⟩) fun st2 => optK st2.env[0]? fun r => K r st2.H := by
    cases x with
    | out i => exact h.elim
    | norm => exact h
    | ret => exact h
  obtain ⟨vs, hvs, h⟩ := optK_some h
  obtain ⟨st2, hg, h⟩ := optK_some h
  obtain ⟨r, hr2, h⟩ := optK_some h
  obtain ⟨v, r1, hv⟩ := results_run (P := P) hcx hr.str hr.H hr.env hvs
  refine ⟨v, r1, ?_⟩
  have hh : Holds M0 ⟨[resT vs], st.H⟩ { tmps := #[v], defers := [] } m.w := ⟨m, rfl, ⟨hr.str, hr.H, rfl, rfl, fun i u hi => by
    match i with
    | 0 => simp at hi; subst hi; simpa using hv
    | i + 1 => simp at hi⟩, he⟩
  obtain ⟨m2, e2, hr3, he2⟩ := gcS_sound hpin hg hh
  exact ⟨r, m2, by rw [hr3.H]; exact h, e2, he2, hr3.str, by simpa using hr3.env 0 r hr2⟩

theorem hcallOk_of_exec (hm : P.follows .mixedOrders = true) (hcx : CxOk P cx) (hcalls : CallsOk P cx) (hdet : CallsDet cx) {f : FuncId} {fn : Func} {c : Code} (hf : P.funcs[f]? = some fn) (hb : fn.body = some c)
    (hname : fn.name ≠ "runtime.NumGoroutine") {s : HSpec} {mt : MT} {md : Md} (hob : ∀ o ∈ obls c mt, Ob.ok cx o)
    (hrun : ∀ as H K, as.length ≤ fn.ntmps ∨ True → s.run as H K → H.length = cx.pin ∧ exec cx c mt (finH cx fn.results.toList md K) ⟨env0 as fn.ntmps, H⟩) : HCallOk P f s := by
  intro M0 vs as K hS hfree hl hrel hrunK
  left
  refine ⟨by simp only [callFunc]; simp [hf, hname, hb], ?_⟩
  obtain ⟨hpin', hex⟩ := hrun as M0.H K (.inr trivial) hrunK
  have hh : Holds M0 ⟨env0 as fn.ntmps, M0.H⟩ { tmps := vs.toArray ++ Array.replicate (fn.ntmps - vs.toArray.size) undef, defers := [] } M0.w := by
    refine ⟨M0, rfl, ⟨hS, rfl, by simp [env0, hl], rfl, fun i v hi => ?_⟩, M.le.refl _⟩
    simp only [env0] at hi
    rw [List.getElem?_append] at hi
    split at hi
    · rename_i hlt
      have : (vs.toArray ++ Array.replicate (fn.ntmps - vs.toArray.size) undef).getD i undef = vs[i]'(by omega) := by
        rw [Array.getD_eq_getD_getElem?, Array.getElem?_append_left (by simp; omega)]; simp [show i < vs.length by omega]
      rw [this]
      exact hrel i _ v (by simp [show i < vs.length by omega]) hi
    · rw [List.getElem?_replicate] at hi
      split at hi
      · simp only [Option.some.injEq] at hi; subst hi; exact VR.undef _ _
      · cases hi
  refine calls_of_wp hf hb (wp_mono (exec_sound (M0 := M0) hpin' hm hcx hcalls hdet c hob hex hh) fun e a' w' ⟨xt, st', hx, hK, hh'⟩ => ?_)
  obtain ⟨v, r1, r2⟩ := finH_res (P := P) hcx hpin' hK hh'
  have hd : a'.defers = [] := by obtain ⟨m, _, hr, _⟩ := hh'; exact hr.defers
  cases e <;> cases xt <;> simp only [XR] at hx
  · exact bodyPost_end r1 hd ⟨v, rfl, r2⟩
  · exact hK.elim
  · exact bodyPost_ret r1 hd ⟨v, rfl, r2⟩

end
theorem Wf.str {l : List Int} (h : Wf ⟨.str, l⟩) : l.length ≤ LIM ∧ ∀ x ∈ l, 0 ≤ x ∧ x < 256 := by
  obtain ⟨m, v, h⟩ := h
  obtain ⟨s, rfl, rfl, h1⟩ := VR.str h
  refine ⟨by rw [strOf_length]; exact h1, fun x hx => ?_⟩
  simp only [strOf, List.mem_map] at hx
  obtain ⟨b, _, rfl⟩ := hx
  have := b.toNat_lt
  omega

theorem Wf.int {k : IntKind} {n : Int} (h : Wf ⟨.int k, n⟩) : inK k n = true := by
  obtain ⟨m, v, h⟩ := h
  exact (VR.int h).2

theorem Wf.sl {t : Ty} {l : List t.El} (h : Wf ⟨.sl t, l⟩) : l.length ≤ LIM ∧ ∀ x ∈ l, t.mem = true → Wf ⟨t, x⟩ := by
  obtain ⟨m, v, h⟩ := h
  obtain ⟨a, n, c, rfl, h1, h2, h3, h4⟩ := VR.sl h
  refine ⟨by have : n = List.length l := h1
             omega, fun x hx hm => ?_⟩
  obtain ⟨j, hj, rfl⟩ := List.mem_iff_getElem.1 hx
  obtain ⟨b, o, ds, _, _, hl, _, hr⟩ := h4 j (by rw [h1]; exact hj)
  have e : List.getD l j t.dflt = l[j] := by simp [List.getD, hj]
  rw [e] at hr
  by_cases ha : t.isAgg = true
  · exact ⟨m, .agg ds.toArray, by unfold VR; simp only [ha]; exact ⟨_, rfl, by simpa using hr⟩⟩
  · have ha : t.isAgg = false := by simpa using ha
    have hc := isAgg_cells ha
    obtain ⟨z, rfl⟩ : ∃ z, ds = [z] := by
      match ds, hl.trans hc with | [z], _ => exact ⟨z, rfl⟩
    exact ⟨m, z, by unfold VR; simp only [ha]; exact hr⟩

end Go.Abs
