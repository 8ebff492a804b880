/- Orders: plain lists. -/
import Derived.Test.YthinfcjijphooaaAbsQ
namespace Go.Abs
set_option linter.unusedVariables false
set_option linter.unusedSimpArgs false
open Go

def Tt (d : Option Nat) (t : Tr) (st : St) : St := ⟨putE st.env d t.v, ups st.H t.ups⟩

theorem disj_iff {a b : List Nat} : disj a b = true ↔ ∀ x ∈ a, x ∉ b := by
  simp [disj]

theorem ups_set {i : Nat} {o : Obj} : ∀ {b : List (Nat × Obj)} {H : List Obj}, i ∉ b.map (·.1) → ups (H.set i o) b = (ups H b).set i o
  | [], _, _ => rfl
  | (j, p) :: b, H, h => by
    simp only [List.map_cons, List.mem_cons, not_or] at h
    simp only [ups]
    rw [List.set_comm _ _ h.1, ups_set h.2]

theorem ups_comm : ∀ {a b : List (Nat × Obj)} {H : List Obj}, disj (a.map (·.1)) (b.map (·.1)) = true → ups (ups H a) b = ups (ups H b) a
  | [], _, _, _ => rfl
  | (i, o) :: a, b, H, h => by
    have h' := disj_iff.1 h
    simp only [ups]
    rw [ups_comm (a := a) (disj_iff.2 fun x hx => h' x (by simp only [List.map_cons, List.mem_cons]; exact .inr hx)), ups_set (h' i (by simp))]

theorem ups_get {k : Nat} : ∀ {b : List (Nat × Obj)} {H : List Obj}, k ∉ b.map (·.1) → (ups H b)[k]? = H[k]?
  | [], _, _ => rfl
  | (j, p) :: b, H, h => by
    simp only [List.map_cons, List.mem_cons, not_or] at h
    simp only [ups]
    rw [ups_get h.2, List.getElem?_set_ne (Ne.symm h.1)]

theorem ups_get_same {k : Nat} : ∀ {b : List (Nat × Obj)} {H H' : List Obj}, H.length = H'.length → H[k]? = H'[k]? → (ups H b)[k]? = (ups H' b)[k]?
  | [], _, _, _, h => h
  | (j, p) :: b, H, H', hl, h => by
    simp only [ups]
    refine ups_get_same (by simp [hl]) ?_
    rw [List.getElem?_set, List.getElem?_set, hl, h]

theorem putE_length (env : List V) (d : Option Nat) (v : V) : (putE env d v).length = env.length := by cases d <;> simp [putE]

theorem putE_get {env : List V} {d : Option Nat} {v : V} {t : Nat} (h : t ∉ d.toList) : (putE env d v)[t]? = env[t]? := by
  cases d with
  | none => rfl
  | some d => simp at h; simp only [putE]; rw [List.getElem?_set_ne (Ne.symm h)]

theorem putE_get_same {env env' : List V} {d : Option Nat} {v : V} {t : Nat} (hl : env.length = env'.length) (h : env[t]? = env'[t]?) : (putE env d v)[t]? = (putE env' d v)[t]? := by
  cases d with
  | none => exact h
  | some d => simp only [putE]; rw [List.getElem?_set, List.getElem?_set, hl, h]

theorem putE_comm {env : List V} {d e : Option Nat} {v u : V} (h : ∀ t ∈ d.toList, t ∉ e.toList) : putE (putE env d v) e u = putE (putE env e u) d v := by
  cases d <;> cases e <;> simp only [putE]
  rename_i d e
  have := h d (by simp)
  simp at this
  exact List.set_comm _ _ this

section
variable {ops : Array Oper}

theorem dst_tmps {o : Oper} : ∀ t ∈ o.dst.toList, t ∈ tmpsOf o ops := fun t h => by simp only [tmpsOf, List.mem_append]; exact .inl (.inl h)

/-- Two operations that may change places. -/
structure Ind (oi oj : Oper) (a b : Tr) (ops : Array Oper) : Prop where
  d1 : ∀ t ∈ oi.dst.toList, t ∉ tmpsOf oj ops
  d2 : ∀ t ∈ oj.dst.toList, t ∉ tmpsOf oi ops
  k : disj (a.ups.map (·.1)) (b.ups.map (·.1)) = true
  r1 : ∀ x ∈ a.ups.map (·.1), x ∉ b.rd
  r2 : ∀ x ∈ b.ups.map (·.1), x ∉ a.rd

theorem indB_iff {oi oj : Oper} {a b : Tr} (h : indB ops oi oj a b = true) : Ind oi oj a b ops := by
  simp only [indB, Bool.and_eq_true] at h
  obtain ⟨⟨⟨⟨h1, h2⟩, h3⟩, h4⟩, h5⟩ := h
  exact ⟨disj_iff.1 h1, disj_iff.1 h2, h3, disj_iff.1 h4, disj_iff.1 h5⟩

theorem Ind.symm {oi oj : Oper} {a b : Tr} (h : Ind oi oj a b ops) : Ind oj oi b a ops :=
  ⟨h.d2, h.d1, disj_iff.2 fun x hx hy => disj_iff.1 h.k x hy hx, h.r2, h.r1⟩

theorem Ind.comm {oi oj : Oper} {a b : Tr} (h : Ind oi oj a b ops) (st : St) : Tt oi.dst a (Tt oj.dst b st) = Tt oj.dst b (Tt oi.dst a st) := by
  simp only [Tt]
  rw [ups_comm h.k, putE_comm (d := oj.dst) (fun t ht hd => h.d1 t hd (dst_tmps t ht))]

/-- What an operation looks at is alike. -/
structure Agree (o : Oper) (t : Tr) (ops : Array Oper) (s s' : St) : Prop where
  el : s.env.length = s'.env.length
  e : ∀ x ∈ tmpsOf o ops, s.env[x]? = s'.env[x]?
  hl : s.H.length = s'.H.length
  h : ∀ k ∈ t.rd, s.H[k]? = s'.H[k]?

theorem Agree.refl (o : Oper) (t : Tr) (s : St) : Agree o t ops s s := ⟨rfl, fun _ _ => rfl, rfl, fun _ _ => rfl⟩
theorem Agree.symm {o : Oper} {t : Tr} {s s' : St} (h : Agree o t ops s s') : Agree o t ops s' s := ⟨h.el.symm, fun x hx => (h.e x hx).symm, h.hl.symm, fun k hk => (h.h k hk).symm⟩
theorem Agree.trans {o : Oper} {t : Tr} {s s' s'' : St} (h : Agree o t ops s s') (g : Agree o t ops s' s'') : Agree o t ops s s'' :=
  ⟨h.el.trans g.el, fun x hx => (h.e x hx).trans (g.e x hx), h.hl.trans g.hl, fun k hk => (h.h k hk).trans (g.h k hk)⟩

theorem Agree.skip {oi oj : Oper} {a b : Tr} (h : Ind oi oj a b ops) (s : St) : Agree oi a ops (Tt oj.dst b s) s :=
  ⟨putE_length _ _ _, fun x hx => putE_get fun hd => h.d2 x hd hx, by simp [Tt, ups_length], fun k hk => ups_get fun hh => h.r2 k hh hk⟩

theorem Agree.both {oi : Oper} {a : Tr} {s s' : St} (h : Agree oi a ops s s') (d : Option Nat) (b : Tr) : Agree oi a ops (Tt d b s) (Tt d b s') :=
  ⟨by simp [Tt, putE_length, h.el], fun x hx => putE_get_same h.el (h.e x hx), by simp [Tt, ups_length, h.hl], fun k hk => ups_get_same h.hl (h.h k hk)⟩

/-! #### Some of the operations, in the order of the text -/

variable (ops) in
def foldD (tr : Nat → Tr) (D : Nat → Bool) (st : St) : Nat → St
  | 0 => st
  | k + 1 => match D k with | true => Tt ((ops[k]?).bind (·.dst)) (tr k) (foldD tr D st k) | false => foldD tr D st k

theorem foldD_congr {tr : Nat → Tr} {D D' : Nat → Bool} {st : St} : ∀ {n : Nat}, (∀ k, k < n → D k = D' k) → foldD ops tr D st n = foldD ops tr D' st n
  | 0, _ => rfl
  | n + 1, h => by
    simp only [foldD]
    rw [h n (by omega), foldD_congr (fun k hk => h k (by omega))]

/-- One more is performed last. -/
theorem foldD_insert {tr : Nat → Tr} {D : Nat → Bool} {st : St} {i : Nat} {oi : Oper} (hoi : ops[i]? = some oi) (hi : D i = false) : ∀ {n : Nat}, i < n →
    (∀ j oj, j < n → i < j → D j = true → ops[j]? = some oj → Ind oi oj (tr i) (tr j) ops) → (∀ j, j < n → ops[j]? ≠ none) → foldD ops tr (fun k => D k || decide (k = i)) st n = Tt oi.dst (tr i) (foldD ops tr D st n)
  | 0, h, _, _ => by omega
  | n + 1, h, hind, hsome => by
    rcases Nat.lt_or_ge i n with hlt | hge
    · simp only [foldD]
      have hne : decide (n = i) = false := by simp; omega
      rw [hne, Bool.or_false, foldD_insert hoi hi hlt (fun j oj hj => hind j oj (by omega)) (fun j hj => hsome j (by omega))]
      cases hD : D n
      · rfl
      · simp only []
        cases ho : ops[n]? with
        | none => exact absurd ho (hsome n (by omega))
        | some oj => exact ((hind n oj (by omega) hlt hD ho).comm _).symm
    · have : i = n := by omega
      subst this
      simp only [foldD, hi, hoi]
      simp only [decide_true, Bool.or_true, Option.bind_some]
      congr 1
      exact foldD_congr fun k hk => by simp; omega

/-- What an operation looks at is the same once those that come before it are done. -/
theorem foldD_agree {tr : Nat → Tr} {D D' : Nat → Bool} {st : St} {i : Nat} {oi : Oper} : ∀ {n : Nat},
    (∀ j oj, j < n → D j ≠ D' j → ops[j]? = some oj → Ind oi oj (tr i) (tr j) ops) → (∀ j, j < n → ops[j]? ≠ none) → Agree oi (tr i) ops (foldD ops tr D st n) (foldD ops tr D' st n)
  | 0, _, _ => Agree.refl _ _ _
  | n + 1, h, hsome => by
    have ih := foldD_agree (st := st) (fun j oj hj => h j oj (by omega)) (fun j hj => hsome j (by omega)) (n := n) (D := D) (D' := D') (tr := tr) (oi := oi) (i := i)
    simp only [foldD]
    cases ho : ops[n]? with
    | none => exact absurd ho (hsome n (by omega))
    | some oj =>
      cases h1 : D n <;> cases h2 : D' n <;> simp only [Option.bind_some]
      · exact ih
      · exact ih.trans (Agree.skip (h n oj (by omega) (by rw [h1, h2]; simp) ho) _).symm
      · exact (Agree.skip (h n oj (by omega) (by rw [h1, h2]; simp) ho) _).trans ih
      · exact ih.both _ _

/-! #### What comes before what -/

theorem uni_mem {x : Nat} : ∀ {a b : List Nat}, x ∈ uni a b ↔ x ∈ a ∨ x ∈ b
  | [], b => by simp [uni]
  | y :: a, b => by
    simp only [uni]
    split
    · rename_i h
      have hy : y ∈ uni a b := by simpa using h
      rw [uni_mem (a := a)] at hy ⊢
      constructor
      · rintro (h | h)
        · exact .inl (by simp [h])
        · exact .inr h
      · rintro (h | h)
        · rcases List.mem_cons.1 h with h | h
          · subst h; exact hy
          · exact .inl h
        · exact .inr h
    · rw [List.mem_cons, uni_mem (a := a), List.mem_cons]
      constructor
      · rintro (h | h | h)
        · exact .inl (.inl h)
        · exact .inl (.inr h)
        · exact .inr h
      · rintro ((h | h) | h)
        · exact .inl h
        · exact .inr (.inl h)
        · exact .inr (.inr h)

theorem befRow_mem {acc : List (List Nat)} {x : Nat} : ∀ {es : List Nat}, x ∈ befRow acc es → ∃ e ∈ es, x = e ∨ x ∈ acc.getD e []
  | [], h => by simp [befRow] at h
  | e :: r, h => by
    simp only [befRow, uni_mem, List.mem_cons] at h
    rcases h with (h | h) | h
    · exact ⟨e, by simp, .inl h⟩
    · exact ⟨e, by simp, .inr h⟩
    · obtain ⟨e', h1, h2⟩ := befRow_mem h
      exact ⟨e', by simp [h1], h2⟩

/-- Down-closed: what comes before those that are done is done. -/
theorem befs_closed {all : List Oper} {D : Nat → Bool} : ∀ {l : List Oper} {acc : List (List Nat)}, (∀ j, l[j]? = all[acc.length + j]?) →
    (∀ j o, all[j]? = some o → D j = true → ∀ e ∈ edgesOf o, D e = true) →
    (∀ j, j < acc.length → ∀ x ∈ acc.getD j [], ∀ o, all[j]? = some o → (∀ e ∈ edgesOf o, D e = true) → D x = true) → (∀ j o, all[j]? = some o → ∀ e ∈ edgesOf o, e < j) →
    ∀ j, ∀ x ∈ (befs l acc).getD j [], ∀ o, all[j]? = some o → (∀ e ∈ edgesOf o, D e = true) → D x = true
  | [], acc, hl, hD, hacc, hlt, j, x, hx, o, ho, he => by
    simp only [befs] at hx
    rcases Nat.lt_or_ge j acc.length with h | h
    · exact hacc j h x hx o ho he
    · simp [List.getD, List.getElem?_eq_none h] at hx
  | p :: r, acc, hl, hD, hacc, hlt, j, x, hx, o, ho, he => by
    simp only [befs] at hx
    refine befs_closed (l := r) (acc := acc ++ [befRow acc (edgesOf p)]) (fun k => by have := hl (k + 1); simpa [Nat.add_assoc, Nat.add_comm 1] using this) hD (fun k hk y hy q hq hqe => ?_) hlt j x hx o ho he
    simp only [List.length_append, List.length_singleton] at hk
    rcases Nat.lt_or_ge k acc.length with h | h
    · have : (acc ++ [befRow acc (edgesOf p)]).getD k [] = acc.getD k [] := by simp only [List.getD_eq_getElem?_getD]; rw [List.getElem?_append_left h]
      rw [this] at hy
      exact hacc k h y hy q hq hqe
    · have hk' : k = acc.length := by omega
      subst hk'
      have : (acc ++ [befRow acc (edgesOf p)]).getD acc.length [] = befRow acc (edgesOf p) := by simp [List.getD]
      rw [this] at hy
      have hp : all[acc.length]? = some p := by have := hl 0; simpa using this.symm
      rw [hp] at hq; simp only [Option.some.injEq] at hq; subst hq
      obtain ⟨e, h1, h2⟩ := befRow_mem hy
      rcases h2 with h2 | h2
      · subst h2; exact hqe _ h1
      · have hlt' := hlt _ _ hp e h1
        cases hoe : all[e]? with
        | none => rw [List.getElem?_eq_none_iff] at hoe; have := (List.getElem?_eq_some_iff.1 hp).1; omega
        | some oe => exact hacc e hlt' y h2 oe hoe (hD e oe hoe (hqe e h1))

end
end Go.Abs
