/- The law TopLeased, in plain Lean. -/
import Derived.Test.YthinfcjijphooaaLeasF
import Derived.Test.YthinfcjijphooaaAbsZ
namespace Go.Abs
set_option linter.unusedVariables false
set_option linter.unusedSimpArgs false
open Go

def rightB (s : List Int) : Bool := !(s == []) && !(decide ((s.length : Int) > 32))
def sumI (now d : Int) : Int := if IntKind.wrap .u64 (now + d) < now then 18446744073709551615 else IntKind.wrap .u64 (now + d)

theorem f17_val (n : Int) : ∃ v, f17 n = some v ∧ 0 ≤ v ∧ v < 18446744073709551616 := by
  rw [f17_eq]; unfold f17_s
  cases decide (n ≥ 128)
  · exact ⟨_, rfl, wrap_range_u64 _⟩
  · exact ⟨_, rfl, wrap_range_u64 _⟩
theorem f18_val (now d : Int) : f18 now d = some (sumI now d) := by
  rw [f18_eq]; unfold f18_s sumI; rw [br_ite]; split <;> rfl
theorem f23_val (now d : Int) (hn : 0 ≤ now ∧ now < 18446744073709551616) (hd : 0 ≤ d ∧ d < 18446744073709551616) : f23 now d = some (sumI now d) := by
  rw [f23_eq]; unfold f23_s sumI
  rw [mnI_eq, wrap_u64 (n := 18446744073709551615 - now) (by omega) (by omega)]
  by_cases h : now + d < 18446744073709551616
  · rw [Int.min_eq_left (by omega), wrap_u64 (by omega) h, if_neg (by omega)]
  · rw [Int.min_eq_right (by omega), wrap_u64_eq, wrap_u64_eq, if_pos (by omega)]
    congr 1; omega
theorem sumI_range (now d : Int) : 0 ≤ sumI now d ∧ sumI now d < 18446744073709551616 := by
  unfold sumI; split
  · omega
  · exact wrap_range_u64 _
theorem f24_val (l : List Int × Int × Unit) (now : Int) : f24 l now = some (decide (now < l.2.1)) := f24_eq _ _
theorem f25_val (s : List Int) : f25 s = some (rightB s) := by
  rw [f25_eq]; unfold f25_s rightB
  cases s with
  | nil => rfl
  | cons a s =>
    rw [br_dec (by simp only [List.length_cons]; omega)]
    congr 1
    by_cases h : (((a :: s).length : Nat) : Int) ≤ 32
    · rw [decide_eq_true h, decide_eq_false (by omega)]; rfl
    · rw [decide_eq_false h, decide_eq_true (by omega)]; rfl
theorem f4_1_val (s : List Int) : f4_1 s = some (rightB s) := by
  rw [f4_1_eq]; unfold f4_1_s rightB
  cases s with
  | nil => rfl
  | cons a s =>
    rw [br_yes (by rfl)]
    congr 1
    by_cases h : (((a :: s).length : Nat) : Int) ≤ 32
    · rw [decide_eq_true h, decide_eq_false (by omega)]; rfl
    · rw [decide_eq_false h, decide_eq_true (by omega)]; rfl
theorem f4_2_val (had : Bool) (now : Int) (own : List Int × Int × Unit) : f4_2 had now own = some (had && decide (now < own.2.1)) := by
  rw [f4_2_eq]; unfold f4_2_s; cases had <;> rfl
theorem f4_4_val (y : Int) : f4_4 y = some (y == 0 || y == 1) := by
  rw [f4_4_eq]; unfold f4_4_s; cases (y == 0) <;> rfl
theorem f99_val (e : Int) : f99 e = some (([], 0, ()), (0, [], 0, 0, ()), e, ()) := f99_eq _
theorem f100_val (l : List Int × Int × Unit) (how now : Int) : f100 l how now = some (l, (how, l.1, now, l.2.1, ()), 0, ()) := f100_eq _ _ _

theorem f4_3_val (had : Bool) (now d : Int) (owner tw : List Int) (y : Int) (own : List Int × Int × Unit) (hn : 0 ≤ now ∧ now < 18446744073709551616) (hd : 0 ≤ d ∧ d < 18446744073709551616) (hu : 0 ≤ own.2.1 ∧ own.2.1 < 18446744073709551616) :
    ∃ due k nx ev, f4_3 had now d owner tw (rightB owner) (had && decide (now < own.2.1)) 0 true y own ([], 0, ()) (0, [], 0, 0, ()) = some (due, due, k, nx, ev, nx, ev) ∧ 0 ≤ nx.2.1 ∧ nx.2.1 < 18446744073709551616 := by
  have h0 : (0 : Int) ≤ 0 ∧ (0 : Int) < 18446744073709551616 := by omega
  have hs := sumI_range now d
  have hd0 : decide (d < 1) = (d == 0) := by
    by_cases h : d = 0
    · subst h; rfl
    · rw [decide_eq_false (by omega)]; symm; exact beq_false_of_ne h
  have e23 := f23_val now d hn hd
  rw [f4_3_eq]; unfold f4_3_s
  have e19 : f19 own had now owner d = f19_s none some own had now owner d := f19_eq _ _ _ _ _
  have e20 : f20 own had now owner d = f20_s none some own had now owner d := f20_eq _ _ _ _ _
  have e21 : f21 own had now owner = f21_s none some own had now owner := f21_eq _ _ _ _
  have e22 : f22 own had now owner tw = f22_s none some own had now owner tw := f22_eq _ _ _ _ _
  simp only [f4_4_val, f18_val, on_some, e19, e20, e21, e22, f19_s, f20_s, f21_s, f22_s, f101_eq, f101_s, f25_val, f24_val, e23, f99_val, f100_val, hd0]
  have hd1 : decide (d > 0) = !(d == 0) := by
    by_cases h : d = 0
    · subst h; rfl
    · rw [decide_eq_true (by omega), beq_false_of_ne h]; rfl
  simp only [hd1]
  have ht : rightB tw = (!(tw == []) && !(decide ((tw.length : Int) > 32))) := rfl
  simp only [ht]
  generalize rightB owner = r
  generalize (d == 0) = z
  generalize decide (now < own.2.1) = run
  generalize (own.1 == owner) = eo
  generalize (y == 0 || y == 1) = y0
  generalize (y == 2) = y2
  generalize (y == 3) = y3
  generalize (tw == []) = a
  generalize decide ((tw.length : Int) > 32) = b
  cases y0
  · cases y2
    · cases y3
      · cases r <;> cases a <;> cases b <;> cases had <;> cases run <;> cases eo <;> first | exact ⟨_, _, _, _, rfl, h0⟩ | exact ⟨_, _, _, _, rfl, hu⟩
      · cases r <;> cases had <;> cases run <;> cases eo <;> exact ⟨_, _, _, _, rfl, h0⟩
    · cases r <;> cases z <;> cases had <;> cases run <;> cases eo <;> first | exact ⟨_, _, _, _, rfl, h0⟩ | exact ⟨_, _, _, _, rfl, hs⟩
  · cases r <;> cases z <;> cases had <;> cases run <;> first | exact ⟨_, _, _, _, rfl, h0⟩ | exact ⟨_, _, _, _, rfl, hs⟩

theorem eqEl_l (x : List Int × Int × Unit) : eqEl (.pair .str (.pair (.int .u64) .unit)) (x : List Int × Int × Unit) (x : List Int × Int × Unit) = true := by
  obtain ⟨a, b, _⟩ := x
  have : eqEl (.pair .str (.pair (.int .u64) .unit)) ((a, b, ()) : List Int × Int × Unit) ((a, b, ()) : List Int × Int × Unit) = ((a == a) && ((b == b) && true)) := rfl
  rw [this]; simp
theorem eqEl_e (x : Int × List Int × Int × Int × Unit) : eqEl (.pair (.int .i64) (.pair .str (.pair (.int .u64) (.pair (.int .u64) .unit)))) (x : Int × List Int × Int × Int × Unit) (x : Int × List Int × Int × Int × Unit) = true := by
  obtain ⟨a, b, c, d, _⟩ := x
  have : eqEl (.pair (.int .i64) (.pair .str (.pair (.int .u64) (.pair (.int .u64) .unit)))) ((a, b, c, d, ()) : Int × List Int × Int × Int × Unit) ((a, b, c, d, ()) : Int × List Int × Int × Int × Unit) = ((a == a) && ((b == b) && ((c == c) && ((d == d) && true)))) := rfl
  rw [this]; simp
theorem f4_5_val (now d : Int) (owner : List Int) (due : Int) (own nx : List Int × Int × Unit) (ev : Int × List Int × Int × Int × Unit) (hn : 0 ≤ now ∧ now < 18446744073709551616) (hd : 0 ≤ d ∧ d < 18446744073709551616) :
    f4_5 now d owner (rightB owner) due due own nx ev nx ev = some false := by
  rw [f4_5_eq]; unfold f4_5_s
  rw [eqEl_l, eqEl_e, br_yes (by simp), br_yes (b := !!true) rfl, br_yes (b := !!true) rfl, on_eq (f23_val now d hn hd), on_eq (f18_val now d), br_yes (by simp), on_eq (f24_val own now), br_yes (by simp), on_eq (f25_val owner)]
  simp

theorem getD_in {l : List Int} {i : Nat} {d : Int} (h : ∀ b ∈ l, 0 ≤ b ∧ b < 256) (hd : 0 ≤ d ∧ d < 256) : 0 ≤ l.getD i d ∧ l.getD i d < 256 := by
  simp only [List.getD]
  cases e : l[i]? with
  | none => simpa using hd
  | some x => simpa using h x (List.mem_of_getElem? e)

theorem f4_0_val (owners : List (List Int)) (ho : owners.length = 5) (rows : List (List Int)) (hr : ∀ r ∈ rows, ∀ b ∈ r, 0 ≤ b ∧ b < 256) (hn : rows.length < 1000) :
    f4_0 false (rows.length : Int) 0 owners ([], 0, ()) rows = some (.inr ()) := by
  rw [f4_0_eq]
  have key : ∃ r, whileO FUEL (f4_0_t (rows.length : Int) owners rows) (false, 0, [], 0, ()) = some r ∧ r = .inr () := by
    refine while_fwd (f := f4_0_t (rows.length : Int) owners rows) (fun i s => s.2.1 = (i : Int) ∧ 0 ≤ s.2.2.2.1 ∧ s.2.2.2.1 < 18446744073709551616) (fun r => r = .inr ()) rows.length ⟨rfl, by decide, by decide⟩ (fun i s hi hs => ?_) (fun s hs => ?_) (fuel_lt (by omega))
    · obtain ⟨had, y, own⟩ := s
      obtain ⟨hy, hu⟩ := hs
      simp only at hy hu
      subst hy
      left
      unfold f4_0_t f4_0_s
      simp only [Int.toNat_natCast]
      have hrow : ∀ b ∈ rows.getD i [0, 0, 0, 0], 0 ≤ b ∧ b < 256 := by
        have e : rows.getD i [0, 0, 0, 0] = rows[i] := by simp [List.getD, hi]
        rw [e]; exact hr _ (List.getElem_mem hi)
      rw [br_dec (by omega), gd_dec2 (by omega) (by omega), let_eq]
      generalize rows.getD i [0, 0, 0, 0] = row at hrow
      obtain ⟨now, e1, hnow⟩ := f17_val (row.getD 1 0)
      obtain ⟨d, e2, hd⟩ := f17_val (row.getD 3 0)
      have b2 := getD_in (i := 2) (d := 0) hrow (by omega)
      have b3 := getD_in (i := 3) (d := 0) hrow (by omega)
      rw [on_eq e1, on_eq e2, let_eq, tmod_pos b2.1, gd_dec2 (by omega) (by omega), let_eq, let_eq, tmod_pos b3.1, gd_dec2 (by omega) (by omega), on_eq (f4_1_val _), on_eq (f4_2_val _ _ _)]
      obtain ⟨due, k, nx, ev, e3, hx⟩ := f4_3_val had now d (owners.getD (row.getD 2 0 % 5).toNat []) (owners.getD (row.getD 3 0 % 5).toNat []) (Int.tmod (row.getD 0 0) 6) own hnow hd hu
      rw [on_eq e3, on_eq (f4_5_val now d _ due own nx ev hnow hd), br_f, wrap_i64 (by omega) (by omega)]
      cases (due == 0)
      · exact ⟨_, rfl, by simp, hu⟩
      · exact ⟨_, rfl, by simp, hx⟩
    · unfold f4_0_t f4_0_s
      rw [hs.1, br_ndec (by omega)]
      exact ⟨_, rfl, rfl⟩
  obtain ⟨r, h1, h2⟩ := key
  rw [h1, h2]

/-- The law's answer: each row's elements are bytes. -/
theorem topLeased_law (l : List (List Int)) (hl : ∀ r ∈ l, ∀ b ∈ r, 0 ≤ b ∧ b < 256) : f4 l = some true := by
  rw [f4_eq]; unfold f4_s
  have r32 : strRep [111] 32 = some (List.replicate 32 [111]).flatten := by unfold strRep; rw [if_pos (by decide)]; rfl
  have r33 : strRep [111] 33 = some (List.replicate 33 [111]).flatten := by unfold strRep; rw [if_pos (by decide)]; rfl
  have hm : mnI (l.length : Int) 60 = ((min l.length 60 : Nat) : Int) := by rw [mnI_eq]; omega
  rw [on_eq r32, on_eq r33, let_eq, hm, gd_dec2 (by omega) (by omega), let_eq, Int.toNat_natCast]
  have ht : (l.take (min l.length 60)).length ≤ 60 := by rw [List.length_take]; omega
  rw [gd_yes (capOk_of (by omega)), let_eq, on_eq (f4_0_val _ rfl _ (fun r hr b hb => ?_) (by rw [List.length_append]; simp only [List.length_cons, List.length_nil]; omega))]
  · rfl
  · rw [List.mem_append] at hr
    rcases hr with hr | hr
    · simp only [List.mem_cons, List.not_mem_nil, or_false] at hr
      rcases hr with rfl | rfl | rfl | rfl <;> simp only [List.mem_cons, List.not_mem_nil, or_false] at hb <;> omega
    · exact hl r (List.mem_of_mem_take hr) b hb
end Go.Abs
