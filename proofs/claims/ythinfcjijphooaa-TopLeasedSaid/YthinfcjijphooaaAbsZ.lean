/- Plain words: answers that may fail, rounds, whole numbers. -/
import Derived.Test.YthinfcjijphooaaAbsX
namespace Go.Abs
set_option linter.unusedVariables false
set_option linter.unusedSimpArgs false
open Go

section
variable {α β A B : Type}
theorem br_t (x y : α) : brP true x y = x := rfl
theorem br_f (x y : α) : brP false x y = y := rfl
theorem br_yes {b : Bool} {x y : α} (h : b = true) : brP b x y = x := by rw [h]; rfl
theorem br_no {b : Bool} {x y : α} (h : b = false) : brP b x y = y := by rw [h]; rfl
theorem br_dec {p : Prop} [Decidable p] {x y : α} (h : p) : brP (decide p) x y = x := by rw [decide_eq_true h]; rfl
theorem br_ndec {p : Prop} [Decidable p] {x y : α} (h : ¬ p) : brP (decide p) x y = y := by rw [decide_eq_false h]; rfl
theorem br_ite {p : Prop} [Decidable p] {x y : α} : brP (decide p) x y = if p then x else y := by by_cases h : p <;> simp [h, brP]
theorem br_bool {b : Bool} {x y : α} : brP b x y = if b = true then x else y := by cases b <;> rfl
theorem gd_yes {no : α} {b : Bool} {x : α} (h : b = true) : gdP no b x = x := by rw [h]; rfl
theorem gd_dec {no : α} {p : Prop} [Decidable p] {x : α} (h : p) : gdP no (decide p) x = x := by rw [decide_eq_true h]; rfl
theorem gd_dec2 {no : α} {p q : Prop} [Decidable p] [Decidable q] {x : α} (h : p) (g : q) : gdP no (decide p && decide q) x = x := by rw [decide_eq_true h, decide_eq_true g]; rfl
theorem gd_dec3 {no : α} {p q r : Prop} [Decidable p] [Decidable q] [Decidable r] {x : α} (h : p) (g : q) (f : r) : gdP no ((decide p && decide q) && decide r) x = x := by rw [decide_eq_true h, decide_eq_true g, decide_eq_true f]; rfl
theorem on_some (no : α) (a : β) (k : β → α) : onP no (some a) k = k a := rfl
theorem on_none (no : α) (k : β → α) : onP no none k = no := rfl
theorem on_eq {no : α} {o : Option β} {a : β} {k : β → α} (h : o = some a) : onP no o k = k a := by rw [h]; rfl
theorem let_eq (e : β) (k : β → α) : letP e k = k e := rfl
theorem case_inl (a : A) (f : A → α) (g : B → α) : caseP (.inl a) f g = f a := rfl
theorem case_inr (b : B) (f : A → α) (g : B → α) : caseP (.inr b) f g = g b := rfl
end

/-! #### Rounds -/

section
variable {S R : Type} {f : S → Option (S ⊕ R)}

theorem while_fwd_aux {I : Nat → S → Prop} {Post : R → Prop} {N : Nat}
    (step : ∀ k s, k < N → I k s → (∃ s', f s = some (.inl s') ∧ I (k + 1) s') ∨ ∃ r, f s = some (.inr r) ∧ Post r)
    (last : ∀ s, I N s → ∃ r, f s = some (.inr r) ∧ Post r) : ∀ (d k : Nat) (n : Nat) (s : S), k + d = N → d < n → I k s → ∃ r, whileO n f s = some r ∧ Post r
  | 0, k, n + 1, s, hk, _, h => by
    have : k = N := by omega
    subst this
    obtain ⟨r, h1, h2⟩ := last s h
    exact ⟨r, whileO_done h1, h2⟩
  | d + 1, k, n + 1, s, hk, hn, h => by
    rcases step k s (by omega) h with ⟨s', h1, h2⟩ | ⟨r, h1, h2⟩
    · obtain ⟨r, g1, g2⟩ := while_fwd_aux step last d (k + 1) n s' (by omega) (by omega) h2
      exact ⟨r, by rw [whileO_next h1]; exact g1, g2⟩
    · exact ⟨r, whileO_done h1, h2⟩
  | _, _, 0, _, _, hn, _ => by omega

/-- So many rounds, with what holds ahead of each; it may end early. -/
theorem while_fwd (I : Nat → S → Prop) (Post : R → Prop) (N : Nat) {s : S} (h0 : I 0 s)
    (step : ∀ k s, k < N → I k s → (∃ s', f s = some (.inl s') ∧ I (k + 1) s') ∨ ∃ r, f s = some (.inr r) ∧ Post r)
    (last : ∀ s, I N s → ∃ r, f s = some (.inr r) ∧ Post r) (hN : N < FUEL) : ∃ r, whileO FUEL f s = some r ∧ Post r :=
  while_fwd_aux step last N 0 FUEL s (by omega) hN h0

/-- So many rounds, each state known. -/
theorem while_seq (g : Nat → S) (N : Nat) {r : R} (step : ∀ k, k < N → f (g k) = some (.inl (g (k + 1)))) (last : f (g N) = some (.inr r)) (hN : N < FUEL) : whileO FUEL f (g 0) = some r := by
  obtain ⟨r', h1, h2⟩ := while_fwd (f := f) (fun k s => s = g k) (fun x => x = r) N (s := g 0) rfl
    (fun k s hk hs => .inl ⟨g (k + 1), by rw [hs]; exact step k hk, rfl⟩) (fun s hs => ⟨r, by rw [hs]; exact last, rfl⟩) hN
  rw [h1, h2]

theorem fuel_lt {n : Nat} (h : n ≤ 4611686018427387903) : n < FUEL := by rw [FUEL_eq]; omega
theorem lim_lt {n : Nat} (h : n < LIM) : n < FUEL := by unfold LIM at h; rw [FUEL_eq]; exact h
end

/-! #### Whole numbers -/

theorem wrap_u8_eq (n : Int) : IntKind.wrap .u8 n = n % 256 := by simp [IntKind.wrap, IntKind.signed, IntKind.bits]
theorem wrap_u16_eq (n : Int) : IntKind.wrap .u16 n = n % 65536 := by simp [IntKind.wrap, IntKind.signed, IntKind.bits]
theorem wrap_u32_eq (n : Int) : IntKind.wrap .u32 n = n % 4294967296 := by simp [IntKind.wrap, IntKind.signed, IntKind.bits]
theorem wrap_u64_eq (n : Int) : IntKind.wrap .u64 n = n % 18446744073709551616 := by simp [IntKind.wrap, IntKind.signed, IntKind.bits]
theorem wrap_u8 {n : Int} (h0 : 0 ≤ n) (h : n < 256) : IntKind.wrap .u8 n = n := by rw [wrap_u8_eq]; omega
theorem wrap_u16 {n : Int} (h0 : 0 ≤ n) (h : n < 65536) : IntKind.wrap .u16 n = n := by rw [wrap_u16_eq]; omega
theorem wrap_u32 {n : Int} (h0 : 0 ≤ n) (h : n < 4294967296) : IntKind.wrap .u32 n = n := by rw [wrap_u32_eq]; omega
theorem wrap_u64 {n : Int} (h0 : 0 ≤ n) (h : n < 18446744073709551616) : IntKind.wrap .u64 n = n := by rw [wrap_u64_eq]; omega
theorem wrap_i64 {n : Int} (h0 : -9223372036854775808 ≤ n) (h : n < 9223372036854775808) : IntKind.wrap .i64 n = n := by
  simp only [IntKind.wrap, IntKind.signed, IntKind.bits]
  simp
  split <;> omega
theorem wrap_range_u8 (n : Int) : 0 ≤ IntKind.wrap .u8 n ∧ IntKind.wrap .u8 n < 256 := by rw [wrap_u8_eq]; omega
theorem wrap_range_u16 (n : Int) : 0 ≤ IntKind.wrap .u16 n ∧ IntKind.wrap .u16 n < 65536 := by rw [wrap_u16_eq]; omega
theorem wrap_range_u32 (n : Int) : 0 ≤ IntKind.wrap .u32 n ∧ IntKind.wrap .u32 n < 4294967296 := by rw [wrap_u32_eq]; omega
theorem wrap_range_u64 (n : Int) : 0 ≤ IntKind.wrap .u64 n ∧ IntKind.wrap .u64 n < 18446744073709551616 := by rw [wrap_u64_eq]; omega

theorem inK_u8 {n : Int} (h : inK .u8 n = true) : 0 ≤ n ∧ n < 256 := by rw [inK_iff] at h; simp [IntKind.min, IntKind.max, IntKind.signed, IntKind.bits] at h; omega
theorem inK_u16 {n : Int} (h : inK .u16 n = true) : 0 ≤ n ∧ n < 65536 := by rw [inK_iff] at h; simp [IntKind.min, IntKind.max, IntKind.signed, IntKind.bits] at h; omega
theorem inK_u32 {n : Int} (h : inK .u32 n = true) : 0 ≤ n ∧ n < 4294967296 := by rw [inK_iff] at h; simp [IntKind.min, IntKind.max, IntKind.signed, IntKind.bits] at h; omega
theorem inK_u64 {n : Int} (h : inK .u64 n = true) : 0 ≤ n ∧ n < 18446744073709551616 := by rw [inK_iff] at h; simp [IntKind.min, IntKind.max, IntKind.signed, IntKind.bits] at h; omega
theorem inK_i8 {n : Int} (h : inK .i8 n = true) : -128 ≤ n ∧ n < 128 := by rw [inK_iff] at h; simp [IntKind.min, IntKind.max, IntKind.signed, IntKind.bits] at h; omega
theorem inK_i64 {n : Int} (h : inK .i64 n = true) : -9223372036854775808 ≤ n ∧ n < 9223372036854775808 := by rw [inK_iff] at h; simp [IntKind.min, IntKind.max, IntKind.signed, IntKind.bits] at h; omega

def SlR {α : Type} (p : α → Prop) (l : List α) : Prop := l.length ≤ LIM ∧ ∀ e ∈ l, p e
def ArrR {α : Type} (n : Nat) (p : α → Prop) (l : List α) : Prop := l.length = n ∧ ∀ e ∈ l, p e
theorem all_getD {α : Type} {p : α → Prop} {l : List α} {d : α} (h : ∀ i, i < l.length → p (l.getD i d)) : ∀ e ∈ l, p e := by
  intro e he
  obtain ⟨i, hi, rfl⟩ := List.mem_iff_getElem.1 he
  have := h i hi
  simpa [List.getD, hi] using this
def StrR (x : List Int) : Prop := x.length ≤ LIM ∧ ∀ b ∈ x, 0 ≤ b ∧ b < 256
theorem strOf_r {s : ByteArray} (hl : s.data.toList.length ≤ LIM) : StrR (strOf s) := by
  refine ⟨by simpa [strOf] using hl, fun b hb => ?_⟩
  simp only [strOf, List.mem_map] at hb
  obtain ⟨u, _, rfl⟩ := hb
  have := u.toNat_lt
  omega
/-- What a value's parts are, whatever the memory. -/
def Rng : (t : Ty) → t.El → Prop
  | .int k, x => inK k x = true
  | .str, x => StrR x
  | .sl t, x => SlR (Rng t) x
  | .arr n t, x => ArrR n (Rng t) x
  | .pair a b, x => Rng a x.1 ∧ Rng b x.2
  | _, _ => True
theorem CR.rng {m : M} : ∀ {t : Ty} {cs : List Value} {x : t.El}, CR m false t cs x → Rng t x
  | .int _, cs, x, h => by simp only [CR] at h; exact h.2
  | .str, cs, x, h => by
    simp only [CR] at h
    obtain ⟨s, _, rfl, hl⟩ := h
    exact strOf_r hl
  | .sl t, cs, x, h => by
    simp only [CR] at h
    obtain ⟨_, n, _, _, hn, _, hl, hi⟩ := h
    refine ⟨hn ▸ hl, all_getD (d := t.dflt) fun i h' => ?_⟩
    obtain ⟨_, _, _, _, _, _, _, hc⟩ := hi i (hn ▸ h')
    exact CR.rng hc
  | .arr n t, cs, x, h => by
    simp only [CR] at h
    obtain ⟨hl, _, _, _, hi⟩ := h
    exact ⟨hl, all_getD (d := t.dflt) fun i h' => CR.rng (hi i (hl ▸ h')).2⟩
  | .pair a b, cs, x, h => by
    simp only [CR] at h
    obtain ⟨_, _, _, _, h1, h2⟩ := h
    exact ⟨CR.rng h1, CR.rng h2⟩
  | .unit, _, _, _ | .bool, _, _, _ | .ip _, _, _, _ | .rf _, _, _, _ | .pt, _, _, _ | .nilS, _, _, _ | .nilP, _, _, _ | .nilF, _, _, _ | .nilM, _, _, _ | .fn _ _, _, _, _ | .tup _, _, _, _ | .undef, _, _, _ => trivial
theorem Wf.rng {t : Ty} {x : t.El} (h : Wf ⟨t, x⟩) : Rng t x := by
  obtain ⟨m, v, h⟩ := h
  simp only [VR] at h
  split at h
  · obtain ⟨_, _, h⟩ := h; exact CR.rng h
  · exact CR.rng h

theorem tdiv_pos {n m : Int} (h : 0 ≤ n) : Int.tdiv n m = n / m := Int.tdiv_eq_ediv_of_nonneg h
theorem tmod_pos {n m : Int} (h : 0 ≤ n) : Int.tmod n m = n % m := Int.tmod_eq_emod_of_nonneg h
theorem mnI_eq (x y : Int) : mnI x y = min x y := by unfold mnI; split <;> omega
theorem mxI_eq (x y : Int) : mxI x y = max x y := by unfold mxI; split <;> omega
theorem capOk_of {n b : Nat} (h : (2 * n + 1000) * (b + 1) ≤ 140737488355328) : capOk n b = true := by unfold capOk; exact decide_eq_true h

theorem bitsI_u8 {op : BinOp} (x y : Int) : 0 ≤ bitsI op .u8 x y ∧ bitsI op .u8 x y < 256 := by unfold bitsI; cases op <;> exact wrap_range_u8 _
theorem bitsI_u32 {op : BinOp} (x y : Int) : 0 ≤ bitsI op .u32 x y ∧ bitsI op .u32 x y < 4294967296 := by unfold bitsI; cases op <;> exact wrap_range_u32 _
theorem bitsI_u64 {op : BinOp} (x y : Int) : 0 ≤ bitsI op .u64 x y ∧ bitsI op .u64 x y < 18446744073709551616 := by unfold bitsI; cases op <;> exact wrap_range_u64 _

theorem or8_comm (x a b : Int) : bitsI .or .u8 (bitsI .or .u8 x a) b = bitsI .or .u8 (bitsI .or .u8 x b) a := by
  have e : ∀ v : BitVec 8, IntKind.wrap .u8 (v.toNat : Int) = (v.toNat : Int) := fun v => wrap_u8 (by omega) (by have := v.isLt; omega)
  have f : ∀ v : BitVec 8, BitVec.ofInt 8 (v.toNat : Int) = v := fun v => by apply BitVec.eq_of_toNat_eq; simp
  show IntKind.wrap .u8 ((BitVec.ofInt 8 (IntKind.wrap .u8 ((BitVec.ofInt 8 x ||| BitVec.ofInt 8 a).toNat : Int)) ||| BitVec.ofInt 8 b).toNat : Int) = IntKind.wrap .u8 ((BitVec.ofInt 8 (IntKind.wrap .u8 ((BitVec.ofInt 8 x ||| BitVec.ofInt 8 b).toNat : Int)) ||| BitVec.ofInt 8 a).toNat : Int)
  rw [e, e, e, e, f, f, BitVec.or_assoc, BitVec.or_assoc, BitVec.or_comm (BitVec.ofInt 8 a)]

theorem getD_append_left {α : Type} {l m : List α} {i : Nat} {d : α} (h : i < l.length) : (l ++ m).getD i d = l.getD i d := by simp only [List.getD]; rw [List.getElem?_append_left h]
theorem take_snoc {α : Type} {l : List α} {k : Nat} {d : α} (h : k < l.length) : l.take (k + 1) = l.take k ++ [l.getD k d] := by
  rw [List.take_succ_eq_append_getElem h]; simp [List.getD, h]

end Go.Abs
