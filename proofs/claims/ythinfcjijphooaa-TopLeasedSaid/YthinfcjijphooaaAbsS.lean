/- Regions whose order is open. -/
import Derived.Test.YthinfcjijphooaaAbsR
namespace Go.Abs
set_option linter.unusedVariables false
set_option linter.unusedSimpArgs false
open Go

def Fact (P : Program) (ops : Array Oper) (o : Oper) (t : Tr) (id : Nat) (st : St) : Prop :=
  ∃ g, guardV ops st.env o = some g ∧
    ((g.getD true = true ∧ ∃ e : Eff, t = ⟨e.v, e.ups, id :: e.rd⟩ ∧ (∀ i ∈ e.rd, i < st.H.length) ∧ st.H[id]? = some .free ∧ Good P o st.env st.H id e) ∨ (g.getD true = false ∧ t = ⟨V.skip, [], [id]⟩))

section
variable {P : Program} {cx : Ctx} {M0 : M} {ops : Array Oper}

theorem guardV_agree {o : Oper} {t : Tr} {s s' : St} (h : Agree o t ops s s') {g : Option Bool} (hg : guardV ops s.env o = some g) : guardV ops s'.env o = some g := by
  rw [← hg]
  unfold guardV
  cases ho : o.guard with
  | none => rfl
  | some p =>
    obtain ⟨j, want⟩ := p
    cases hd : (ops[j]?).bind (·.dst) with
    | none => simp only [hd]
    | some d =>
      have : s.env[d]? = s'.env[d]? := h.e d (by simp [tmpsOf, ho, hd])
      simp only [hd, this]

theorem tmps_operand {o : Oper} {t : Nat} (h : Operand.tmp t ∈ o.op.operands.toList) : t ∈ tmpsOf o ops := by
  simp only [tmpsOf, List.mem_append, List.mem_filterMap]
  exact .inl (.inr ⟨_, h, rfl⟩)

theorem fact_step {o : Oper} {t : Tr} {id i : Nat} {s s' : St} (hf : Fact P ops o t id s) (ho : ops[i]? = some o) (hag : Agree o t ops s s') {a : Act} {w : World} (hh : Holds M0 s' a w)
    {Q : Exit → Act → World → Prop} {K : Act → World → Prop} (hK : ∀ a w, Holds M0 (Tt o.dst t s') a w → K a w) : wpOp P ops Q i K a w := by
  obtain ⟨g, hg, hf⟩ := hf
  obtain ⟨m, rfl, hr, he⟩ := hh
  have hwant := guard_wanted hr (guardV_agree hag hg)
  unfold wpOp
  simp only [ho]
  rcases hf with ⟨hgt, e, rfl, hrd, hfree, hgood⟩ | ⟨hgf, rfl⟩
  · rw [if_pos (by rw [hwant]; exact hgt)]
    left
    refine hgood m a hr.str (fun x hx u hu => ?_) (by rw [hr.H]; exact hag.hl.symm) (fun k hk => ⟨hrd k hk, ?_⟩) (fun _ => ?_) _ _ ?_
    · cases x with
      | tmp t =>
        refine hr.env t u ?_
        rw [← hag.e t (tmps_operand hx)]; exact hu
      | const c => exact opnd_const hu
      | func f => exact hr.opnd (x := .func f) hu
      | global g => simp [Abs.opnd] at hu
    · rw [hr.H]; simp only [List.getD_eq_getElem?_getD]; rw [hag.h k (by simp [hk])]
    · rw [hr.H, ← hag.h id (by simp)]; exact hfree
    · rintro v w' ⟨m', rfl, hH, hs', hle, hv⟩
      exact hK _ _ ⟨m', rfl, hr.put hs' hle (by rw [hH, hr.H]) hv, he.step hle⟩
  · rw [if_neg (by rw [hwant, hgf]; simp)]
    exact hK _ _ ⟨m, rfl, hr.put hr.str (M.le.refl m) hr.H VR.skip, he⟩

theorem foldD_tr {tr tr' : Nat → Tr} {D : Nat → Bool} {st : St} : ∀ {n : Nat}, (∀ k, k < n → tr k = tr' k) → foldD ops tr D st n = foldD ops tr' D st n
  | 0, _ => rfl
  | n + 1, h => by
    simp only [foldD]
    rw [h n (by omega), foldD_tr (fun k hk => h k (by omega))]

def nth (l : List Tr) (k : Nat) : Tr := l.getD k default

theorem nth_append {a b : List Tr} {k : Nat} (h : k < a.length) : nth (a ++ b) k = nth a k := by
  simp only [nth, List.getD_eq_getElem?_getD]; rw [List.getElem?_append_left h]
theorem nth_end {a : List Tr} {t : Tr} {b : List Tr} : nth (a ++ t :: b) a.length = t := by simp [nth, List.getD]

def FactsTo (P : Program) (ops : Array Oper) (base : Nat) (K : St → List Tr → Prop) (st0 : St) (l : List Oper) (i : Nat) (lg : List Tr) : Prop :=
  ∃ trs : List Tr, trs.length = l.length ∧ K (foldD ops (nth (lg ++ trs)) (fun _ => true) st0 (i + l.length)) (lg ++ trs) ∧
      ∀ k o, i ≤ k → ops[k]? = some o → k < i + l.length → Fact P ops o (nth (lg ++ trs) k) (base + k) (foldD ops (nth (lg ++ trs)) (fun _ => true) st0 k)

theorem runD_facts (hcx : CxOk P cx) (hcalls : CallsOk P cx) (hdet : CallsDet cx) {base : Nat} {K : St → List Tr → Prop} {st0 : St} : ∀ (l : List Oper) (i : Nat) (st : St) (lg : List Tr), runD cx ops base K l i st lg → (∀ j, l[j]? = ops[i + j]?) → lg.length = i →
    st = foldD ops (nth lg) (fun _ => true) st0 i → FactsTo P ops base K st0 l i lg
  | [], i, st, lg, h, _, _, hst => by
    refine ⟨[], rfl, ?_, fun k o h1 _ h2 => by simp at h2; omega⟩
    simp only [List.append_nil, List.length_nil, Nat.add_zero]
    rw [← hst]; exact h
  | o :: r, i, st, lg, h, hl, hlg, hst => by
    simp only [runD] at h
    obtain ⟨g, hg, h⟩ := optK_some h
    have ho : ops[i]? = some o := by have := hl 0; simpa using this.symm
    have rest : ∀ t : Tr, Fact P ops o t (base + i) st → runD cx ops base K r (i + 1) (Tt o.dst t st) (lg ++ [t]) → FactsTo P ops base K st0 (o :: r) i lg := by
      intro t hfact hrun
      have e1 : nth (lg ++ [t]) i = t := by rw [← hlg]; exact nth_end
      obtain ⟨trs, h1, h2, h3⟩ := runD_facts hcx hcalls hdet r (i + 1) _ _ hrun (fun j => by have := hl (j + 1); simpa [Nat.add_assoc, Nat.add_comm 1] using this) (by simp [hlg]) (by
        simp only [foldD, ho, Option.bind_some, e1]
        rw [hst]; congr 1
        exact foldD_tr fun k hk => (nth_append (by omega)).symm)
      have e2 : lg ++ [t] ++ trs = lg ++ t :: trs := by simp
      rw [e2] at h2 h3
      refine ⟨t :: trs, by simp [h1], by rw [show i + (o :: r).length = i + 1 + r.length by simp; omega]; exact h2, fun k o' hk hok hlt => ?_⟩
      rcases Nat.eq_or_lt_of_le hk with e | hgt
      · subst e
        rw [ho] at hok; simp only [Option.some.injEq] at hok; subst hok
        have e3 : nth (lg ++ t :: trs) i = t := by rw [← hlg]; exact nth_end
        rw [e3, show foldD ops (nth (lg ++ t :: trs)) (fun _ => true) st0 i = st by rw [hst]; exact foldD_tr fun k hk => nth_append (by omega)]
        exact hfact
      · exact h3 k o' hgt hok (by simp at hlt; omega)
    have yes : (evC cx st.env st.H (base + i) o.op fun e => gd (rdOk e.rd st.H.length && freeAt st.H (base + i)) (runD cx ops base K r (i + 1) ⟨putE st.env o.dst e.v, ups st.H e.ups⟩ (lg ++ [⟨e.v, e.ups, (base + i) :: e.rd⟩]))) →
        g.getD true = true → FactsTo P ops base K st0 (o :: r) i lg := by
      intro hev hgt
      obtain ⟨e, hK, hgood⟩ := evC_sound (P := P) hcx hcalls hdet hev
      obtain ⟨hrd, hK⟩ := gd_true hK
      simp only [Bool.and_eq_true, rdOk, List.all_eq_true, decide_eq_true_eq] at hrd
      refine rest ⟨e.v, e.ups, (base + i) :: e.rd⟩ ⟨g, hg, .inl ⟨hgt, e, rfl, hrd.1, ?_, hgood⟩⟩ hK
      have := hrd.2
      unfold freeAt at this
      split at this
      · assumption
      · cases this
    split at h
    · exact yes h rfl
    · rename_i b
      rcases br_or h with ⟨hb, h⟩ | ⟨hb, h⟩
      · subst hb; rw [guardSt_eq hg] at h; exact yes h rfl
      · subst hb; rw [guardSt_eq hg] at h; exact rest ⟨V.skip, [], [base + i]⟩ ⟨some false, hg, .inr ⟨rfl, rfl⟩⟩ h

theorem foldD_below {tr : Nat → Tr} {st : St} {i : Nat} : ∀ {n : Nat}, i ≤ n → foldD ops tr (fun k => decide (k < i)) st n = foldD ops tr (fun _ => true) st i
  | 0, h => by have : i = 0 := by omega
               subst this; rfl
  | n + 1, h => by
    rcases Nat.lt_or_ge n i with h1 | h1
    · have : i = n + 1 := by omega
      subst this
      exact foldD_congr fun k hk => by simp [hk]
    · simp only [foldD]
      rw [show decide (n < i) = false by simp; exact h1]
      exact foldD_below h1

/-- What 'noConf' tells. -/
structure NC (ops : Array Oper) (tr : Nat → Tr) : Prop where
  lt : ∀ j o, ops[j]? = some o → ∀ e ∈ edgesOf o, e < j
  ind : ∀ i j oi oj, i < j → ops[i]? = some oi → ops[j]? = some oj → i ∈ (befs ops.toList []).getD j [] ∨ Ind oi oj (tr i) (tr j) ops

theorem NC.of {trs : List Tr} (h : noConf ops trs = true) : NC ops (nth trs) := by
  simp only [noConf, List.all_eq_true, List.mem_range, Bool.and_eq_true] at h
  refine ⟨fun j o ho e he => ?_, fun i j oi oj hij hoi hoj => ?_⟩
  · have hj : j < ops.size := (Array.getElem?_eq_some_iff.1 ho).1
    have := (h j hj).1
    rw [ho] at this
    simp only [List.all_eq_true, decide_eq_true_eq] at this
    exact this e he
  · have hj : j < ops.size := (Array.getElem?_eq_some_iff.1 hoj).1
    have := (h j hj).2 i hij
    rw [Bool.or_eq_true] at this
    rcases this with h1 | h1
    · left; simpa using h1
    · right
      rw [hoi, hoj] at h1
      split at h1
      · rename_i oi' oj' ta tb e1 e2 e3 e4
        simp only [Option.some.injEq] at e1 e2
        subst e1; subst e2
        have : nth trs i = ta := by simp [nth, List.getD, e3]
        rw [this]
        have : nth trs j = tb := by simp [nth, List.getD, e4]
        rw [this]
        exact indB_iff h1
      · cases h1

theorem mem_edges {o : Oper} {e : Nat} : e ∈ edgesOf o ↔ ∃ x ∈ o.after, Region.binds .any x = true ∧ x.on = e := by
  simp only [edgesOf, List.mem_map, List.mem_filter, Array.mem_toList_iff, and_assoc]

theorem getD_set_eq {l : Array Bool} {i k : Nat} (hi : i < l.size) : (l.setIfInBounds i true).getD k false = (l.getD k false || decide (k = i)) := by
  rw [Array.getD_eq_getD_getElem?, Array.getD_eq_getD_getElem?, Array.getElem?_setIfInBounds]
  by_cases h : i = k
  · subst h; simp [hi]
  · rw [if_neg h]; have : decide (k = i) = false := by simp; exact fun h' => h h'.symm
    rw [this]; simp

theorem wpAny_of_facts {tr : Nat → Tr} {st0 : St} {base : Nat} (hnc : NC ops tr) (hfacts : ∀ k o, ops[k]? = some o → Fact P ops o (tr k) (base + k) (foldD ops tr (fun _ => true) st0 k))
    {Q : Exit → Act → World → Prop} (hQ : ∀ a w, Holds M0 (foldD ops tr (fun _ => true) st0 ops.size) a w → Q .normal a w) :
    ∀ (fuel : Nat) (listed : Array Bool) (a : Act) (w : World), listed.size = ops.size → listed.toList.count false ≤ fuel →
      (∀ j o, ops[j]? = some o → listed.getD j false = true → ∀ e ∈ edgesOf o, listed.getD e false = true) →
      Holds M0 (foldD ops tr (fun k => listed.getD k false) st0 ops.size) a w → wpAny P .any ops Q fuel listed a w := by
  have hsome : ∀ j, j < ops.size → ops[j]? ≠ none := fun j hj h => by rw [Array.getElem?_eq_none_iff] at h; omega
  have done : ∀ (listed : Array Bool) (a : Act) (w : World), listed.size = ops.size → Region.ready .any ops listed = [] →
      Holds M0 (foldD ops tr (fun k => listed.getD k false) st0 ops.size) a w → Q .normal a w := by
    intro listed a w hsz hr hh
    have all : ∀ n k, k < n → k < ops.size → listed.getD k false = true := by
      intro n
      induction n with
      | zero => intro k h; omega
      | succ n ih =>
        intro k hk hks
        cases hD : listed.getD k false
        · exfalso
          have : k ∈ Region.ready .any ops listed := by
            refine mem_ready.2 ⟨?_, ops[k], by simp [hks], fun e he hb => ?_⟩
            · rw [Array.getD_eq_getD_getElem?, Array.getElem?_eq_getElem (by omega)] at hD ⊢; exact hD
            · have hlt := hnc.lt k ops[k] (by simp [hks]) e.on (mem_edges.2 ⟨e, he, hb, rfl⟩)
              exact ih e.on (by omega) (by omega)
          rw [hr] at this; cases this
        · rfl
    have e : foldD ops tr (fun k => listed.getD k false) st0 ops.size = foldD ops tr (fun _ => true) st0 ops.size := foldD_congr fun k hk => all (k + 1) k (by omega) hk
    rw [e] at hh
    exact hQ a w hh
  intro fuel
  induction fuel with
  | zero =>
    intro listed a w hsz hc hcl hh
    have hr : Region.ready .any ops listed = [] := by
      rw [List.eq_nil_iff_forall_not_mem]
      intro j hj
      obtain ⟨h1, oj, h2, _⟩ := mem_ready.1 hj
      have hlt : j < listed.size := by rw [hsz]; exact (Array.getElem?_eq_some_iff.1 h2).1
      rw [Array.getD_eq_getD_getElem?, Array.getElem?_eq_getElem hlt] at h1
      simp only [Option.getD_some] at h1
      have : false ∈ listed.toList := by rw [← h1]; exact Array.getElem_mem_toList hlt
      have := List.count_pos_iff.2 this
      omega
    exact ⟨hr, done listed a w hsz hr hh⟩
  | succ fuel ih =>
    intro listed a w hsz hc hcl hh
    refine ⟨fun hr => done listed a w hsz hr hh, fun i hi => ?_⟩
    obtain ⟨h1, oi, hoi, hall⟩ := mem_ready.1 hi
    have hlt : i < ops.size := (Array.getElem?_eq_some_iff.1 hoi).1
    have hDi : listed.getD i false = false := by
      rw [Array.getD_eq_getD_getElem?, Array.getElem?_eq_getElem (by omega)] at h1 ⊢; exact h1
    have hedges : ∀ e ∈ edgesOf oi, listed.getD e false = true := fun e he => by
      obtain ⟨x, hx, hb, rfl⟩ := mem_edges.1 he
      exact hall x hx hb
    have hpre : ∀ j x, x ∈ (befs ops.toList []).getD j [] → ∀ o, ops[j]? = some o → (∀ e ∈ edgesOf o, listed.getD e false = true) → listed.getD x false = true := fun j x hx o ho he =>
      befs_closed (all := ops.toList) (D := fun k => listed.getD k false) (l := ops.toList) (acc := []) (by simp) (fun j o ho => hcl j o (by simpa using ho)) (by simp) (fun j o ho => hnc.lt j o (by simpa using ho)) j x hx o (by simpa using ho) he
    have indL : ∀ j oj, j < i → listed.getD j false = false → ops[j]? = some oj → Ind oi oj (tr i) (tr j) ops := fun j oj hji hDj hoj => by
      rcases hnc.ind j i oj oi hji hoj hoi with h | h
      · have := hpre i j h oi hoi hedges; rw [hDj] at this; cases this
      · exact h.symm
    have indR : ∀ j oj, i < j → listed.getD j false = true → ops[j]? = some oj → Ind oi oj (tr i) (tr j) ops := fun j oj hji hDj hoj => by
      rcases hnc.ind i j oi oj hji hoi hoj with h | h
      · have := hpre j i h oj hoj (hcl j oj hoj hDj); rw [hDi] at this; cases this
      · exact h
    have hag : Agree oi (tr i) ops (foldD ops tr (fun _ => true) st0 i) (foldD ops tr (fun k => listed.getD k false) st0 ops.size) := by
      rw [← foldD_below (n := ops.size) (by omega)]
      refine foldD_agree (fun j oj hj hne hoj => ?_) hsome
      rcases Nat.lt_trichotomy j i with h | h | h
      · have : listed.getD j false = false := by
          cases hD : listed.getD j false
          · rfl
          · simp [h, hD] at hne
        exact indL j oj h this hoj
      · subst h; simp [hDi] at hne
      · have : listed.getD j false = true := by
          cases hD : listed.getD j false
          · have : ¬ j < i := by omega
            simp [this, hD] at hne
          · rfl
        exact indR j oj h this hoj
    refine fact_step (hfacts i oi hoi) hoi hag hh fun a' w' hh' => ?_
    have hset : ∀ k, (listed.setIfInBounds i true).getD k false = (listed.getD k false || decide (k = i)) := fun k => getD_set_eq (by omega)
    refine ih _ a' w' (by simp [hsz]) ?_ (fun j o ho hD e he => ?_) ?_
    · rw [Array.toList_setIfInBounds, List.count_set (by simp; omega)]
      have : listed.toList[i]'(by simp; omega) = false := by
        rw [Array.getD_eq_getD_getElem?, Array.getElem?_eq_getElem (by omega)] at hDi
        simpa using hDi
      rw [this]
      have hp : 0 < listed.toList.count false := List.count_pos_iff.2 (by rw [← this]; simp)
      simp
      simp at hc hp
      omega
    · rw [hset] at hD ⊢
      rw [Bool.or_eq_true] at hD
      rcases hD with hD | hD
      · rw [hcl j o ho hD e he]; rfl
      · simp at hD; subst hD
        rw [hoi] at ho; simp only [Option.some.injEq] at ho; subst ho
        rw [hedges e he]; rfl
    · rw [foldD_congr (D' := fun k => listed.getD k false || decide (k = i)) (fun k _ => hset k)]
      rw [foldD_insert hoi hDi hlt (fun j oj _ hij hDj hoj => indR j oj hij hDj hoj) hsome]
      exact hh'

theorem region_sound (hm : P.follows .mixedOrders = true) (hcx : CxOk P cx) (hcalls : CallsOk P cx) (hdet : CallsDet cx) {id : Nat} {K : St → Prop} {st : St}
    (h : runD cx ops st.H.length (fun st' lg => gd (noConf ops lg) (K st')) ops.toList 0 ⟨st.env, st.H ++ List.replicate ops.size .free⟩ [])
    {Q : Exit → Act → World → Prop} (hQ : ∀ st a w, K st → Holds M0 st a w → Q .normal a w) {a : Act} {w : World} (hh : Holds M0 st a w) : (Code.region id ops true).wp P Q a w := by
  obtain ⟨trs, h1, h2, h3⟩ := runD_facts (P := P) hcx hcalls hdet (st0 := ⟨st.env, st.H ++ List.replicate ops.size .free⟩) ops.toList 0 _ _ h (by simp) rfl rfl
  simp only [List.nil_append] at h2 h3
  obtain ⟨hnc, hK⟩ := gd_true h2
  refine wp_region_any hm (wpAny_of_facts (st0 := ⟨st.env, st.H ++ List.replicate ops.size .free⟩) (NC.of hnc) (fun k o ho => h3 k o (by omega) ho (by simpa using (Array.getElem?_eq_some_iff.1 ho).1)) (fun a w hh => hQ _ a w (by simpa using hK) hh) ops.size _ a _ (by simp) ?_ ?_ ?_)
  · rw [Array.toList_replicate, List.count_replicate_self]; exact Nat.le_refl _
  · intro j o ho hD
    rw [Array.getD_eq_getD_getElem?, Array.getElem?_replicate] at hD
    split at hD <;> simp at hD
  · obtain ⟨m, rfl, hr, he⟩ := hh
    have e : foldD ops (nth trs) (fun k => (Array.replicate ops.size false).getD k false) ⟨st.env, st.H ++ List.replicate ops.size .free⟩ ops.size = ⟨st.env, st.H ++ List.replicate ops.size .free⟩ := by
      have : ∀ n, foldD ops (nth trs) (fun _ => false) ⟨st.env, st.H ++ List.replicate ops.size .free⟩ n = ⟨st.env, st.H ++ List.replicate ops.size .free⟩ := by
        intro n; induction n with
        | zero => rfl
        | succ n ih => simp only [foldD]; exact ih
      rw [← this ops.size]
      rw [this]
      rw [foldD_congr (D' := fun _ => false) (fun k _ => by rw [Array.getD_eq_getD_getElem?, Array.getElem?_replicate]; split <;> rfl)]
      exact this _
    rw [e]
    have hr1 := hr.more ops.size
    obtain ⟨q1, q2⟩ := hr1.str.grow (w' := { m.w with drawn := m.w.drawn + 1 }) (Grows.of_heap rfl rfl rfl rfl)
    refine ⟨_, rfl, ⟨q1, hr1.H, hr1.size, hr1.defers, fun i v hi => (hr1.env i v hi).mono q2⟩, (he.step (hr.str.more ops.size).2).step q2⟩

end
end Go.Abs
