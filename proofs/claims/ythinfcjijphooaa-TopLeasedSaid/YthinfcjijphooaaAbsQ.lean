/- States; regions in the order of the text. -/
import Derived.LoopN
import Derived.Scope
import Derived.Test.YthinfcjijphooaaAbsP
namespace Go.Abs
set_option linter.unusedVariables false
set_option linter.unusedSimpArgs false
open Go

structure Rel (st : St) (m : M) (a : Act) : Prop where
  str : StR m
  H : m.H = st.H
  size : a.tmps.size = st.env.length
  defers : a.defers = []
  env : ∀ (i : Nat) (v : V), st.env[i]? = some v → VR m (a.tmps.getD i undef) v

def Holds (M0 : M) (st : St) (a : Act) (w : World) : Prop := ∃ m : M, m.w = w ∧ Rel st m a ∧ Ext M0 m

section
variable {P : Program} {cx : Ctx} {M0 : M}

theorem Rel.opnd {st : St} {m : M} {a : Act} (h : Rel st m a) {x : Operand} {u : V} (hx : opnd st.env x = some u) : VR m (a.eval x) u := by
  cases x with
  | tmp t => exact h.env t u hx
  | const c => exact opnd_const hx
  | func f =>
    simp only [Abs.opnd, Option.some.injEq] at hx; subst hx
    simp only [VR, Ty.isAgg, CR, Act.eval]
    exact ⟨#[], rfl, rfl⟩
  | global g => simp [Abs.opnd] at hx

theorem Rel.opsOn {st : St} {m : M} {a : Act} (h : Rel st m a) (o : Oper) : OpsOn o m st.env a := fun _ _ _ hu => h.opnd hu

/-- A slot is written. -/
theorem Rel.put {st : St} {m m' : M} {a : Act} (h : Rel st m a) (hs : StR m') (hle : m.le m') {H' : List Obj} (hH : m'.H = H') {dst : Option Tmp} {v : Value} {u : V} (hv : VR m' v u) :
    Rel ⟨putE st.env dst u, H'⟩ m' (a.put dst v) := by
  cases dst with
  | none => exact ⟨hs, hH, h.size, h.defers, fun i v hi => (h.env i v hi).mono hle⟩
  | some d =>
    refine ⟨hs, hH, by simp [Act.put, putE, h.size], h.defers, fun i v' hi => ?_⟩
    simp only [putE, List.getElem?_set] at hi
    show VR m' ((a.tmps.setIfInBounds d v).getD i undef) v'
    split at hi
    · rename_i e; subst e
      split at hi
      · rename_i hd
        simp only [Option.some.injEq] at hi; subst hi
        rw [Array.getD_eq_getD_getElem?, Array.getElem?_setIfInBounds_self_of_lt (by rw [h.size]; exact hd)]
        exact hv
      · cases hi
    · rename_i e
      rw [Array.getD_eq_getD_getElem?, Array.getElem?_setIfInBounds_ne e, ← Array.getD_eq_getD_getElem?]
      exact (h.env i v' hi).mono hle

/-- New places for objects. -/
theorem StR.more {m : M} (hs : StR m) (n : Nat) : StR ⟨m.ρ, m.H ++ List.replicate n .free, m.S, m.w⟩ ∧ m.le ⟨m.ρ, m.H ++ List.replicate n .free, m.S, m.w⟩ := by
  have hg : ∀ i, i < m.H.length → (m.H ++ List.replicate n Obj.free).getD i .none = m.H.getD i .none := fun i hi => by
    simp only [List.getD_eq_getElem?_getD]; rw [List.getElem?_append_left hi]
  have hg2 : ∀ i, ¬ i < m.H.length → ¬ ((m.H ++ List.replicate n Obj.free).getD i .none).live := fun i hi => by
    simp only [List.getD_eq_getElem?_getD]; rw [List.getElem?_append_right (by omega), List.getElem?_replicate]
    split <;> exact fun h => h
  have hle : m.le ⟨m.ρ, m.H ++ List.replicate n .free, m.S, m.w⟩ := by
    refine ⟨⟨Nat.le_refl _, fun b hb ho => ⟨fun ⟨j, j1, j2, base, cap, j3⟩ => ?_, fun _ => rfl, fun _ => rfl, fun h => h⟩⟩, fun _ h => h, fun _ _ _ _ hv => hv, by simp, fun i hi => .inr (.inr (RStep.refl _ _)), fun i hi => ?_, ⟨⟨rfl, rfl, rfl⟩, fun _ _ _ => rfl⟩⟩
    · by_cases h : j < m.H.length
      · simp only [hg j h] at j2; exact ho ⟨j, h, j2, base, cap, j3⟩
      · exact hg2 j h j2
    · show OStep _ ((m.H ++ List.replicate n Obj.free).getD i .none); rw [hg i hi]; exact OStep.refl _
  refine ⟨⟨fun i hi => ?_, fun i j hi hj hij li lj b base cap b' base' cap' ri rj => ?_, hs.bd⟩, hle⟩
  · show OR _ i ((m.H ++ List.replicate n Obj.free).getD i .none)
    by_cases h : i < m.H.length
    · rw [hg i h]
      exact OR.go hle rfl (Nat.le_refl _) (fun _ _ _ _ _ => ⟨fun _ => rfl, fun _ => rfl, fun h => h⟩) (hs.ok i h)
    · have := hg2 i h
      generalize (m.H ++ List.replicate n Obj.free).getD i .none = ob at *
      cases ob <;> simp [Obj.live] at this <;> trivial
  · have h1 : i < m.H.length := by
      rcases Nat.lt_or_ge i m.H.length with h | h
      · exact h
      · exact absurd li (hg2 i (by omega))
    have h2 : j < m.H.length := by
      rcases Nat.lt_or_ge j m.H.length with h | h
      · exact h
      · exact absurd lj (hg2 j (by omega))
    simp only [hg i h1] at li
    simp only [hg j h2] at lj
    exact hs.inj i j h1 h2 hij li lj _ _ _ _ _ _ ri rj

theorem Rel.more {st : St} {m : M} {a : Act} (h : Rel st m a) (n : Nat) : Rel ⟨st.env, st.H ++ List.replicate n .free⟩ ⟨m.ρ, m.H ++ List.replicate n .free, m.S, m.w⟩ a :=
  ⟨(h.str.more n).1, by show m.H ++ _ = _; rw [h.H], h.size, h.defers, fun i v hi => (h.env i v hi).mono (h.str.more n).2⟩

/-- What a guard tells. -/
theorem guard_wanted {st : St} {m : M} {a : Act} (h : Rel st m a) {ops : Array Oper} {o : Oper} {g : Option Bool} (hg : guardV ops st.env o = some g) : Region.wanted o (yielded ops a.tmps) = g.getD true := by
  unfold guardV at hg
  split at hg
  · rename_i ho; simp only [Option.some.injEq] at hg; subst hg; simp [Region.wanted, ho]
  · rename_i j want ho
    split at hg
    · cases hg
    · rename_i d hd
      have hy : yielded ops a.tmps j = match a.tmps[d]? with | some (.bool b) => some b | _ => none := by
        unfold yielded; rw [hd]; rfl
      split at hg
      · rename_i b he
        simp only [Option.some.injEq] at hg; subst hg
        have hv := VR.bool (h.env d _ he)
        have hlt : d < a.tmps.size := by
          rw [h.size]
          rcases Nat.lt_or_ge d st.env.length with h | h
          · exact h
          · rw [List.getElem?_eq_none h] at he; cases he
        rw [Array.getD_eq_getD_getElem?, Array.getElem?_eq_getElem hlt] at hv
        simp only [Option.getD_some] at hv
        rw [Array.getElem?_eq_getElem hlt, hv] at hy
        simp only [Region.wanted, ho, hy]
        cases want <;> cases b <;> rfl
      · rename_i x he
        simp only [Option.some.injEq] at hg; subst hg
        have hv := h.env d _ he
        simp only [VR, Ty.isAgg, CR] at hv
        obtain ⟨vs, e, hvs⟩ := hv
        simp only [List.cons.injEq, and_true] at e
        have hlt : d < a.tmps.size := by
          rw [h.size]
          rcases Nat.lt_or_ge d st.env.length with h | h
          · exact h
          · rw [List.getElem?_eq_none h] at he; cases he
        rw [Array.getD_eq_getD_getElem?, Array.getElem?_eq_getElem hlt] at e
        simp only [Option.getD_some] at e
        rw [Array.getElem?_eq_getElem hlt, e] at hy
        simp only [Region.wanted, ho, hy]
        rfl
      · cases hg

theorem nilAsk_run (hcx : CxOk P cx) {o : Oper} {st : St} {m : M} {a : Act} (hr : Rel st m a) {q em : Bool} (h : nilAsk cx st.env o.op = some (q, em)) :
    ∃ b : Bool, (b = q → em = true) ∧ (execOp a.eval o).run P m.w = .ok (.value (.bool b)) m.w := by
  generalize ho : o.op = op at h
  unfold nilAsk at h
  split at h
  · rename_i bop t x y t'
    split at h
    · rename_i e s l n hk hx hy
      have hu := elem_slice hcx hk
      have hvx := hr.opnd hx
      have hvy := VR.nilS (hr.opnd hy)
      obtain ⟨ad, k, c, e1, e2, _, _, e3⟩ := VR.sl hvx
      have heq : ∀ d, (Go.Op.equalIn (d + 1) t (.slice ad k c) (.slice none 0 0)).run P m.w = .ok ad.isNone m.w := fun d => by
        cases ad <;> simp [Go.Op.equalIn, run_underlying hu]
      have hem : ad.isNone = true → List.isEmpty l = true := fun h => by
        cases ad with
        | some _ => simp at h
        | none =>
          cases l with
          | nil => rfl
          | cons z l =>
            obtain ⟨b, o, ds, q1, _⟩ := e3 0 (by rw [e2]; simp)
            cases q1
      have heq' : (Go.Op.equal t (.slice ad k c) (.slice none 0 0)).run P m.w = .ok ad.isNone m.w := by rw [equal_succ]; exact heq _
      split at h
      · simp only [Option.some.injEq, Prod.mk.injEq] at h
        obtain ⟨rfl, rfl⟩ := h
        refine ⟨ad.isNone, hem, ?_⟩
        have := run_guarded (P := P) (w := m.w) (op := .eql) (t := t) (x := x) (y := y) (by rw [eqGuard_at_slice]; rfl) (run_eq_other (P := P) (r := ad.isNone) (op := .eql) (t := t) rfl heq' rfl rfl)
        simp only [execOp, ho, e1, hvy, Sem.run_bind] at this ⊢
        rw [this]; rfl
      · simp only [Option.some.injEq, Prod.mk.injEq] at h
        obtain ⟨rfl, rfl⟩ := h
        refine ⟨!ad.isNone, fun h => hem (by simpa using h), ?_⟩
        have := run_guarded (P := P) (w := m.w) (op := .neq) (t := t) (x := x) (y := y) (by rw [eqGuard_at_slice]; rfl) (run_eq_other (P := P) (r := !ad.isNone) (op := .neq) (t := t) rfl heq' rfl rfl)
        simp only [execOp, ho, e1, hvy, Sem.run_bind] at this ⊢
        rw [this]; rfl
      · cases h
    · cases h
  · cases h

theorem guardSt_eq {ops : Array Oper} {env : List V} {o : Oper} {b : Bool} (h : guardV ops env o = some (some b)) : guardSt ops env o b = env := by
  unfold guardV at h
  unfold guardSt
  split at h
  · cases h
  · split at h
    · cases h
    · rename_i d hd
      split at h
      · rename_i t he
        simp only [Option.some.injEq] at h
        simp only [hd, he]
        have hlt : d < env.length := by
          rcases Nat.lt_or_ge d env.length with h | h
          · exact h
          · rw [List.getElem?_eq_none h] at he; cases he
        apply List.ext_getElem?
        intro k
        rw [List.getElem?_set]
        split
        · rename_i e; subst e
          rw [he]
          have key : ∀ (w t b : Bool), (match w with | true => t | false => !t) = b → (match b with | true => w | false => !w) = t := by decide
          exact congrArg some (congrArg (V.mk .bool) (key _ t b h))
        · rfl
      · rename_i he
        simp only [hd, he]
      · cases h

theorem last_free (H : List Obj) : (H ++ [Obj.free])[H.length]? = some .free := by simp

theorem runOps_sound (hcx : CxOk P cx) (hcalls : CallsOk P cx) (hdet : CallsDet cx) {ops : Array Oper} {K : St → Prop} {Q : Exit → Act → World → Prop}
    (hQ : ∀ st a w, K st → Holds M0 st a w → Q .normal a w) : ∀ (l : List Oper) (st : St) (a : Act) (w : World), runOps cx ops K l st → Holds M0 st a w → wpList P ops Q l a w
  | [], st, a, w, h, hh => hQ st a w h hh
  | o :: r, st, a, w, h, ⟨m, hw, hr, he⟩ => by
    simp only [runOps] at h
    obtain ⟨g, hg, h⟩ := optK_some h
    have hwant := guard_wanted hr hg
    have yes : (match nilAsk cx st.env o.op with
        | some (q, em) => (em = true → runOps cx ops K r ⟨putE st.env o.dst ⟨.bool, q⟩, st.H⟩) ∧ runOps cx ops K r ⟨putE st.env o.dst ⟨.bool, !q⟩, st.H⟩
        | none => evC cx st.env (laid o st.H) st.H.length o.op fun e => gd (rdOk e.rd (laid o st.H).length) (runOps cx ops K r ⟨putE st.env o.dst e.v, ups (laid o st.H) e.ups⟩)) →
        Region.wanted o (yielded ops a.tmps) = true → wpList P ops Q (o :: r) a w := by
      intro hev hwant
      unfold wpList
      rw [if_pos hwant]
      left
      split at hev
      · rename_i q em hq
        subst hw
        obtain ⟨b, hb, hrun⟩ := nilAsk_run hcx hr hq
        refine Gives.value (R := fun v w' => v = .bool b ∧ w' = m.w) hrun ⟨rfl, rfl⟩ _ _ ?_
        rintro v w' ⟨rfl, rfl⟩
        have hR : Holds M0 ⟨putE st.env o.dst ⟨.bool, b⟩, st.H⟩ (a.put o.dst (.bool b)) m.w := ⟨m, rfl, hr.put hr.str (M.le.refl m) hr.H VR.mk_bool, he⟩
        by_cases hbq : b = q
        · subst hbq; exact runOps_sound hcx hcalls hdet hQ r _ _ _ (hev.1 (hb rfl)) hR
        · have : b = !q := by cases b <;> cases q <;> simp_all
          rw [this] at hR ⊢; exact runOps_sound hcx hcalls hdet hQ r _ _ _ hev.2 hR
      obtain ⟨e, hK, hgood⟩ := evC_sound hcx hcalls hdet hev
      obtain ⟨hrd, hK⟩ := gd_true hK
      subst hw
      have hl : ∃ m1 : M, m1.w = m.w ∧ Rel ⟨st.env, laid o st.H⟩ m1 a ∧ m.le m1 ∧ (laysOf o.op = true → (laid o st.H)[st.H.length]? = some .free) := by
        unfold laid
        cases hl : laysOf o.op
        · exact ⟨m, rfl, hr, M.le.refl m, fun h => by cases h⟩
        · exact ⟨⟨m.ρ, m.H ++ List.replicate 1 Obj.free, m.S, m.w⟩, rfl, hr.more 1, (hr.str.more 1).2, fun _ => last_free st.H⟩
      obtain ⟨m1, e1, hr1, hle1, hfree⟩ := hl
      rw [← e1]
      refine hgood m1 a hr1.str (hr1.opsOn o) (by rw [hr1.H]) (fun i hi => ⟨?_, by rw [hr1.H]⟩) (fun h => by rw [hr1.H]; exact hfree h) _ _ ?_
      · simp only [rdOk, List.all_eq_true, decide_eq_true_eq] at hrd; exact hrd i hi
      · rintro v w' ⟨m', rfl, hH, hs', hle, hv⟩
        exact runOps_sound hcx hcalls hdet hQ r _ _ _ hK ⟨m', rfl, hr1.put hs' hle (by rw [hH, hr1.H]) hv, (he.step hle1).step hle⟩
    split at h
    · exact yes h (by rw [hwant]; rfl)
    · rename_i b
      rcases br_or h with ⟨hb, h⟩ | ⟨hb, h⟩
      · subst hb; rw [guardSt_eq hg] at h; exact yes h (by rw [hwant]; rfl)
      · subst hb; rw [guardSt_eq hg] at h
        unfold wpList
        rw [if_neg (by rw [hwant]; simp)]
        exact runOps_sound hcx hcalls hdet hQ r _ _ _ h ⟨m, hw, hr.put hr.str (M.le.refl m) hr.H VR.skip, he⟩

end
end Go.Abs
