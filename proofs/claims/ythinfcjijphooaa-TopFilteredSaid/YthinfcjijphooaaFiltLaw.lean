/- TopFiltered: the law without memory. -/
import Derived.Test.YthinfcjijphooaaAbsZ
import Derived.Test.YthinfcjijphooaaFiltF
namespace Go.Abs
set_option linter.unusedVariables false
set_option linter.unusedSimpArgs false
open Go Go.Proofs

/-! #### Hashes -/

def fnvR (h c : Int) : Int := IntKind.wrap .u64 ((bitsI .xor .u64 h (IntKind.wrap .u64 c)) * 1099511628211)
def fnv (key : List Int) : Int := key.foldl fnvR 14695981039346656037

theorem fnv_snoc (l : List Int) (c : Int) : fnv (l ++ [c]) = fnvR (fnv l) c := by simp [fnv]
theorem fnv_range (l : List Int) : 0 ≤ fnv l ∧ fnv l < 18446744073709551616 := by
  rcases List.eq_nil_or_concat l with rfl | ⟨r, c, rfl⟩
  · decide
  · rw [List.concat_eq_append, fnv_snoc]; exact wrap_range_u64 _

theorem hash_rounds {step : Int × Int → Option ((Int × Int) ⊕ Int)} (key : List Int) (hl : key.length < LIM)
    (hs : ∀ h (i : Nat), i < key.length → step (h, (i : Int)) = some (.inl (fnvR h (key.getD i 0), (i + 1 : Nat)))) (hd : ∀ h, step (h, (key.length : Int)) = some (.inr h)) :
    whileO FUEL step (14695981039346656037, 0) = some (fnv key) := by
  have := while_seq (f := step) (fun k => (fnv (key.take k), (k : Int))) key.length (r := fnv key) (fun k hk => by
    rw [hs _ _ hk, take_snoc (d := 0) hk, fnv_snoc]) (by rw [hd]; simp) (lim_lt hl)
  simpa [fnv] using this

theorem f14_eq (key : List Int) (hl : key.length < LIM) : f14 key = some (fnv key) := by
  unfold f14 f14_s f14_0
  rw [on_eq (hash_rounds (step := f14_0_t (key.length : Int) key) key hl (fun h i hi => ?_) (fun h => ?_))]
  · unfold f14_0_t f14_0_s
    have hl' := hl; unfold LIM at hl'
    rw [br_dec (by simp only []; omega), gd_dec2 (by simp only []; omega) (by simp only []; omega), wrap_i64 (by simp only []; omega) (by simp only []; omega)]
    simp [fnvR]
  · unfold f14_0_t f14_0_s
    rw [br_ndec (by simp only []; omega)]

theorem f10h_eq (key : List Int) (hl : key.length < LIM) : f10_0 key 14695981039346656037 (key.length : Int) 0 = some (fnv key) := by
  unfold f10_0
  refine hash_rounds (step := f10_0_t key (key.length : Int)) key hl (fun h i hi => ?_) (fun h => ?_)
  · unfold f10_0_t f10_0_s
    have hl' := hl; unfold LIM at hl'
    rw [br_dec (by simp only []; omega), gd_dec2 (by simp only []; omega) (by simp only []; omega), wrap_i64 (by simp only []; omega) (by simp only []; omega)]
    simp [fnvR]
  · unfold f10_0_t f10_0_s
    rw [br_ndec (by simp only []; omega)]

/-! #### Probes -/

def stp (h : Int) : Int := bitsI .or .u32 (IntKind.wrap .u32 (shrI .u64 h 32)) 1
/-- The k-th bit of a hash. -/
def pb (h m : Int) (k : Nat) : Int := (h % 4294967296 + k * stp h) % 4294967296 % m
def prb (h m : Int) : List Int := (List.range 6).map (pb h m)

theorem stp_range (h : Int) : 0 ≤ stp h ∧ stp h < 4294967296 := bitsI_u32 _ _
theorem pb_range {h m : Int} (hm : 0 < m) (k : Nat) : 0 ≤ pb h m k ∧ pb h m k < m := ⟨Int.emod_nonneg _ (by omega), Int.emod_lt_of_pos _ hm⟩
theorem prb_len (h m : Int) : (prb h m).length = 6 := by simp [prb]
theorem prb_range {h m : Int} (hm : 0 < m) : ∀ p ∈ prb h m, 0 ≤ p ∧ p < m := by
  intro p hp
  simp only [prb, List.mem_map] at hp
  obtain ⟨k, _, rfl⟩ := hp
  exact pb_range hm k

def atk (h : Int) (k : Nat) : Int := (h % 4294967296 + k * stp h) % 4294967296
theorem atk_range (h : Int) (k : Nat) : 0 ≤ atk h k ∧ atk h k < 4294967296 := by unfold atk; omega
theorem atk_succ (h : Int) (k : Nat) : IntKind.wrap .u32 (atk h k + stp h) = atk h (k + 1) := by
  rw [wrap_u32_eq]; unfold atk
  have : ((k + 1 : Nat) : Int) * stp h = (k : Int) * stp h + stp h := by rw [Int.natCast_add, Int.add_mul]; simp
  rw [this]
  generalize (k : Int) * stp h = x
  generalize stp h = y
  omega

def outk (h m : Int) (k : Nat) : List Int := (List.range 6).map fun i => if i < k then pb h m i else 0

theorem outk_set (h m : Int) : ∀ k : Nat, k < 6 → (outk h m k).set k (pb h m k) = outk h m (k + 1) := by
  intro k hk
  apply List.ext_getElem
  · simp [outk]
  · intro i h1 h2
    simp only [outk, List.getElem_set, List.getElem_map, List.getElem_range]
    by_cases e : k = i
    · subst e; simp
    · simp only [if_neg e]
      by_cases g : i < k
      · simp [g, Nat.lt_succ_of_lt g]
      · have : ¬ i < k + 1 := by omega
        simp [g, this]

theorem f92_eq (key : List Int) (m : Int) (hl : key.length < LIM) (h0 : 0 < m) (h1 : m < 4294967296) : f92 key m = some (prb (fnv key) m) := by
  unfold f92 f92_s
  rw [on_eq (f14_eq key hl)]
  have hr := fnv_range key
  generalize fnv key = h at hr
  have e : f92_0 m (IntKind.wrap .u32 h) (stp h) 0 [0, 0, 0, 0, 0, 0] = some (prb h m) := by
    unfold f92_0
    have := while_seq (f := f92_0_t m (stp h)) (fun k => (atk h k, (k : Int), outk h m k)) 6 (r := prb h m) (fun k hk => ?_) ?_ (fuel_lt (by omega))
    · have e1 : atk h 0 = IntKind.wrap .u32 h := by rw [wrap_u32_eq]; unfold atk; omega
      have e2 : outk h m 0 = [0, 0, 0, 0, 0, 0] := by simp [outk, List.range, List.range.loop]
      rw [e1, e2] at this
      exact this
    · unfold f92_0_t f92_0_s
      have ha := atk_range h k
      have hm : IntKind.wrap .u64 m = m := wrap_u64 (by omega) (by omega)
      simp only [hm, atk_succ, wrap_u64 ha.1 (show atk h k < 18446744073709551616 by omega)]
      rw [br_dec (by omega), gd_yes (by simp; omega), gd_dec2 (by omega) (by omega), tmod_pos ha.1]
      have hp : atk h k % m = pb h m k := rfl
      have hpr := pb_range (h := h) h0 k
      rw [hp, wrap_i64 (by omega) (by omega), wrap_i64 (by omega) (by omega), Int.toNat_natCast, outk_set h m k hk]
      rfl
    · unfold f92_0_t f92_0_s
      rw [br_ndec (by simp)]
      have : outk h m 6 = prb h m := by
        unfold outk prb
        apply List.map_congr_left
        intro i hi
        have := List.mem_range.1 hi
        simp [this]
      simp [this]
  rw [show bitsI .or .u32 (IntKind.wrap .u32 (shrI .u64 h 32)) 1 = stp h from rfl, on_eq e]

theorem f10_eq (key : List Int) (m : Int) (hl : key.length < LIM) (h0 : 0 < m) (h1 : m < 4294967296) : f10 key m = some (prb (fnv key) m) := by
  unfold f10 f10_s
  rw [on_eq (f10h_eq key hl)]
  have hr := fnv_range key
  generalize fnv key = h at hr
  have e : f10_1 m (IntKind.wrap .u32 h) (stp h) 0 ([] : List Int) = some (prb h m) := by
    unfold f10_1
    have := while_seq (f := f10_1_t m (IntKind.wrap .u32 h) (stp h)) (fun k => ((k : Int), (List.range k).map (pb h m))) 6 (r := prb h m) (fun k hk => ?_) ?_ (fuel_lt (by omega))
    · simpa using this
    · unfold f10_1_t f10_1_s
      have hs := stp_range h
      simp only []
      have hw : IntKind.wrap .u32 (IntKind.wrap .u32 h + IntKind.wrap .u32 ((k : Int) * stp h)) = atk h k := by
        rw [wrap_u32_eq, wrap_u32_eq, wrap_u32_eq]; unfold atk
        generalize (k : Int) * stp h = x
        omega
      rw [hw, br_dec (by omega), gd_yes (by simp; omega), gd_yes (capOk_of (by simp; omega)), wrap_u32 (by omega) (by omega), tmod_pos (atk_range h k).1]
      simp only [List.range_succ, List.map_append, List.map_cons, List.map_nil, pb, atk]
      rfl
    · unfold f10_1_t f10_1_s
      rw [br_ndec (by simp)]; rfl
  rw [show bitsI .or .u32 (IntKind.wrap .u32 (shrI .u64 h 32)) 1 = stp h from rfl, on_eq e]

/-! #### Bits -/

def orb (b : List Int) (p : Int) : List Int := b.set (p / 8).toNat (bitsI .or .u8 (b.getD (p / 8).toNat 0) (shlI .u8 1 (p % 8)))

theorem orb_len (b : List Int) (p : Int) : (orb b p).length = b.length := by simp [orb]
theorem orbs_len (ps : List Int) : ∀ b : List Int, (ps.foldl orb b).length = b.length := by
  induction ps with
  | nil => intro b; rfl
  | cons p ps ih => intro b; simp only [List.foldl_cons]; rw [ih, orb_len]

theorem orb_comm (b : List Int) (p q : Int) : orb (orb b p) q = orb (orb b q) p := by
  unfold orb
  by_cases e : (p / 8).toNat = (q / 8).toNat
  · rw [e]
    by_cases h : (q / 8).toNat < b.length
    · simp [List.set_set, List.getD, h, or8_comm]
    · simp [List.set_eq_of_length_le (show b.length ≤ (q / 8).toNat by omega)]
  · rw [List.set_comm _ _ e]
    have h1 : ∀ (i j : Nat) (x : Int), i ≠ j → (b.set i x).getD j 0 = b.getD j 0 := fun i j x h => by
      simp only [List.getD, List.getElem?_set_ne h]
    rw [h1 _ _ _ e, h1 _ _ _ (Ne.symm e)]

theorem orbs_comm1 (qs : List Int) : ∀ (b : List Int) (p : Int), qs.foldl orb (orb b p) = orb (qs.foldl orb b) p := by
  induction qs with
  | nil => intro b p; rfl
  | cons q qs ih => intro b p; simp only [List.foldl_cons]; rw [orb_comm, ih]
theorem orbs_comm (ps qs : List Int) : ∀ b : List Int, qs.foldl orb (ps.foldl orb b) = ps.foldl orb (qs.foldl orb b) := by
  induction ps with
  | nil => intro b; rfl
  | cons p ps ih => intro b; simp only [List.foldl_cons]; rw [ih, orbs_comm1]

/-- A key's bits, set. -/
def addKey (m : Int) (b : List Int) (key : List Int) : List Int := (prb (fnv key) m).foldl orb b
def ownOf (m : Int) (b : List Int) (keys : List (List Int)) : List Int := keys.foldl (addKey m) b

theorem addKey_len (m : Int) (b key : List Int) : (addKey m b key).length = b.length := orbs_len _ _
theorem ownOf_len (m : Int) (keys : List (List Int)) : ∀ b : List Int, (ownOf m b keys).length = b.length := by
  induction keys with
  | nil => intro b; rfl
  | cons p ps ih => intro b; show (ownOf m (addKey m b p) ps).length = _; rw [ih, addKey_len]

theorem addKey_comm1 (m : Int) (keys : List (List Int)) : ∀ (b k : List Int), keys.foldl (addKey m) (addKey m b k) = addKey m (keys.foldl (addKey m) b) k := by
  induction keys with
  | nil => intro b k; rfl
  | cons q qs ih =>
    intro b k
    simp only [List.foldl_cons]
    rw [show addKey m (addKey m b k) q = addKey m (addKey m b q) k from orbs_comm _ _ _, ih]

theorem ownOf_reverse (m : Int) (keys : List (List Int)) : ∀ b : List Int, ownOf m b keys.reverse = ownOf m b keys := by
  induction keys with
  | nil => intro b; rfl
  | cons k ks ih =>
    intro b
    unfold ownOf at *
    rw [List.reverse_cons, List.foldl_append, ih]
    simp only [List.foldl_cons, List.foldl_nil]
    rw [addKey_comm1]

theorem bits_rounds {step : Int × List Int → Option ((Int × List Int) ⊕ List Int)} (ps : List Int) (b0 : List Int) (n : Nat) (hn : n = ps.length) (hlt : n < LIM)
    (hs : ∀ (i : Nat) (b : List Int), i < n → b.length = b0.length → step ((i : Int), b) = some (.inl (((i + 1 : Nat) : Int), orb b (ps.getD i 0)))) (hd : ∀ b, step ((n : Int), b) = some (.inr b)) :
    whileO FUEL step (0, b0) = some (ps.foldl orb b0) := by
  subst hn
  have := while_seq (f := step) (fun k => ((k : Int), (ps.take k).foldl orb b0)) ps.length (r := ps.foldl orb b0) (fun k hk => by
    rw [hs k _ hk (orbs_len _ _), take_snoc (d := 0) hk, List.foldl_append]; rfl) (by rw [hd]; simp) (lim_lt hlt)
  simpa using this

theorem getD_mem {α : Type} {l : List α} {i : Nat} {d : α} (h : i < l.length) : l.getD i d ∈ l := by simp [List.getD, h]

theorem f13_1_eq (ps b0 : List Int) (h6 : ps.length = 6) (hp : ∀ p ∈ ps, 0 ≤ p ∧ p < 8 * (b0.length : Int)) (hb : b0.length < 1000000) : f13_1 ps 0 b0 = some (ps.foldl orb b0) := by
  unfold f13_1
  refine bits_rounds (step := f13_1_t ps) ps b0 6 h6.symm (by decide) (fun i b hi hl => ?_) (fun b => ?_)
  · unfold f13_1_t f13_1_s
    have hpi := hp (ps.getD i 0) (getD_mem (by omega))
    simp only [Int.toNat_natCast]
    rw [br_dec (by omega), gd_dec2 (by omega) (by omega), let_eq, let_eq, tdiv_pos hpi.1, tmod_pos hpi.1, wrap_i64 (by omega) (by omega), gd_dec2 (by omega) (by omega), gd_dec (by omega), gd_dec2 (by omega) (by omega), wrap_i64 (by omega) (by omega)]
    rfl
  · unfold f13_1_t f13_1_s
    rw [br_ndec (by simp)]

theorem f3_2_eq (ps b0 : List Int) (h6 : ps.length = 6) (hp : ∀ p ∈ ps, 0 ≤ p ∧ p < 8 * (b0.length : Int)) (hb : b0.length < 1000000) : f3_2 ((ps.length : Nat) : Int) 0 b0 ps = some (ps.foldl orb b0) := by
  unfold f3_2
  refine bits_rounds (step := f3_2_t (ps.length : Int) ps) ps b0 6 h6.symm (by decide) (fun i b hi hl => ?_) (fun b => ?_)
  · unfold f3_2_t f3_2_s
    have hpi := hp (ps.getD i 0) (getD_mem (by omega))
    simp only [Int.toNat_natCast]
    rw [br_dec (by omega), gd_dec2 (by omega) (by omega), let_eq, let_eq, tdiv_pos hpi.1, tmod_pos hpi.1, wrap_u32 (by omega) (by omega), gd_dec2 (by omega) (by omega), gd_dec (by omega), gd_dec2 (by omega) (by omega), wrap_i64 (by omega) (by omega)]
    rfl
  · unfold f3_2_t f3_2_s
    rw [br_ndec (by simp; omega)]

theorem keys_rounds {step : Int × List Int → Option ((Int × List Int) ⊕ List Int)} (m : Int) (keys : List (List Int)) (b0 : List Int) (hlt : keys.length < LIM)
    (hs : ∀ (i : Nat) (b : List Int), i < keys.length → b.length = b0.length → step ((i : Int), b) = some (.inl (((i + 1 : Nat) : Int), addKey m b (keys.getD i [])))) (hd : ∀ b, step ((keys.length : Int), b) = some (.inr b)) :
    whileO FUEL step (0, b0) = some (ownOf m b0 keys) := by
  have := while_seq (f := step) (fun k => ((k : Int), ownOf m b0 (keys.take k))) keys.length (r := ownOf m b0 keys) (fun k hk => by
    rw [hs k _ hk (ownOf_len _ _ _), take_snoc (d := []) hk]; unfold ownOf; rw [List.foldl_append]; rfl) (by rw [hd]; simp) (lim_lt hlt)
  simpa [ownOf] using this

theorem f13_0_eq (keys : List (List Int)) (b0 : List Int) (hk : ∀ k ∈ keys, k.length < LIM) (hn : keys.length < LIM) (h0 : 0 < b0.length) (hb : b0.length < 1000000) :
    f13_0 keys (keys.length : Int) 0 b0 = some (ownOf (8 * (b0.length : Int)) b0 keys) := by
  unfold f13_0
  have hn' := hn; unfold LIM at hn'
  refine keys_rounds (step := f13_0_t keys (keys.length : Int)) _ keys b0 hn (fun i b hi hl => ?_) (fun b => ?_)
  · unfold f13_0_t f13_0_s
    have hki := hk (keys.getD i []) (getD_mem hi)
    simp only [Int.toNat_natCast]
    rw [br_dec (by omega), gd_dec2 (by omega) (by omega), hl, wrap_i64 (by omega) (by omega), on_eq (f92_eq _ _ hki (by omega) (by omega)),
      on_eq (f13_1_eq _ b (prb_len _ _) (fun p hp => by rw [hl]; exact prb_range (by omega) p hp) (by omega)), wrap_i64 (by omega) (by omega)]
    rfl
  · unfold f13_0_t f13_0_s
    rw [br_ndec (by simp)]

theorem f3_1_eq (keys : List (List Int)) (b0 : List Int) (hk : ∀ k ∈ keys, k.length < LIM) (hn : keys.length < LIM) (h0 : 0 < b0.length) (hb : b0.length < 1000000) :
    f3_1 (b0.length : Int) (keys.length : Int) 0 keys b0 = some (ownOf (8 * (b0.length : Int)) b0 keys) := by
  unfold f3_1
  have hn' := hn; unfold LIM at hn'
  refine keys_rounds (step := f3_1_t (b0.length : Int) (keys.length : Int) keys) _ keys b0 hn (fun i b hi hl => ?_) (fun b => ?_)
  · unfold f3_1_t f3_1_s
    have hki := hk (keys.getD i []) (getD_mem hi)
    simp only [Int.toNat_natCast]
    rw [br_dec (by omega), gd_dec2 (by omega) (by omega), wrap_i64 (n := 8 * (b0.length : Int)) (by omega) (by omega), wrap_u32 (by omega) (by omega), on_eq (f10_eq _ _ hki (by omega) (by omega)),
      on_eq (f3_2_eq _ b (prb_len _ _) (fun p hp => by rw [hl]; exact prb_range (by omega) p hp) (by omega)), wrap_i64 (by omega) (by omega)]
    rfl
  · unfold f3_1_t f3_1_s
    rw [br_ndec (by simp)]

/-- How many bytes a filter has. -/
def szOf (n : Nat) : Nat := (max (10 * n) 64 + 7) / 8

theorem size_eq (n : Nat) (hn : n ≤ 100000) : IntKind.wrap .i64 (Int.tdiv (IntKind.wrap .i64 ((mxI (IntKind.wrap .i64 (10 * (n : Int))) 64) + 7)) 8) = (szOf n : Int) := by
  rw [wrap_i64 (n := 10 * (n : Int)) (by omega) (by omega), mxI_eq, wrap_i64 (n := max (10 * (n : Int)) 64 + 7) (by omega) (by omega), tdiv_pos (by omega), wrap_i64 (by omega) (by omega)]
  unfold szOf; omega

theorem f13_eq (keys : List (List Int)) (hk : ∀ k ∈ keys, k.length < LIM) (hn : keys.length ≤ 100000) : f13 keys = some (ownOf (8 * (szOf keys.length : Int)) (List.replicate (szOf keys.length) 0) keys) := by
  unfold f13 f13_s
  have hz : 8 ≤ szOf keys.length := by unfold szOf; omega
  have hz2 : szOf keys.length < 1000000 := by unfold szOf; omega
  have := f13_0_eq keys (List.replicate (szOf keys.length) 0) hk (by unfold LIM; omega) (by simp; omega) (by simp; omega)
  simp only [List.length_replicate] at this
  rw [let_eq, size_eq _ hn, gd_yes (by simp [capOk_of (n := szOf keys.length) (b := 1) (by omega)]), Int.toNat_natCast, on_eq this]

/-! #### Reversed; cloned -/

def revk (s : List (List Int)) (k : Nat) : List (List Int) := (List.range s.length).map fun x => if x < k ∨ s.length ≤ x + k then s.getD (s.length - 1 - x) [] else s.getD x []

theorem revk_len (s : List (List Int)) (k : Nat) : (revk s k).length = s.length := by simp [revk]
theorem revk_get (s : List (List Int)) (k x : Nat) (hx : x < s.length) : (revk s k).getD x [] = if x < k ∨ s.length ≤ x + k then s.getD (s.length - 1 - x) [] else s.getD x [] := by
  simp [revk, List.getD, hx]
theorem list_ext {α : Type} {d : α} {a b : List α} (hl : a.length = b.length) (h : ∀ i, i < a.length → a.getD i d = b.getD i d) : a = b := by
  apply List.ext_getElem hl
  intro i h1 h2
  have := h i h1
  simpa [List.getD, h1, h2] using this
theorem getD_set_same {α : Type} {l : List α} {i : Nat} {x d : α} (h : i < l.length) : (l.set i x).getD i d = x := by simp [List.getD, h]
theorem getD_set_ne {α : Type} {l : List α} {i j : Nat} {x d : α} (h : i ≠ j) : (l.set i x).getD j d = l.getD j d := by simp only [List.getD, List.getElem?_set_ne h]

theorem revk_step (s : List (List Int)) (k : Nat) (h : 2 * k + 1 < s.length) :
    ((revk s k).set k ((revk s k).getD (s.length - 1 - k) [])).set (s.length - 1 - k) ((revk s k).getD k []) = revk s (k + 1) := by
  refine list_ext (d := []) (by simp [revk_len]) (fun i hi => ?_)
  simp only [List.length_set, revk_len] at hi
  rw [revk_get s (k + 1) i hi]
  by_cases e1 : s.length - 1 - k = i
  · subst e1
    rw [getD_set_same (by simp [revk_len]; omega), revk_get s k k (by omega), if_neg (by omega), if_pos (by omega)]
    congr 1; omega
  · rw [getD_set_ne e1]
    by_cases e2 : k = i
    · subst e2
      rw [getD_set_same (by rw [revk_len]; omega), revk_get s k _ (by omega), if_neg (by omega), if_pos (by omega)]
    · rw [getD_set_ne e2, revk_get s k i hi]
      by_cases c : i < k ∨ s.length ≤ i + k
      · rw [if_pos c, if_pos (by omega)]
      · rw [if_neg c, if_neg (by omega)]

theorem revk_end (s : List (List Int)) : revk s (s.length / 2) = s.reverse := by
  refine list_ext (d := []) (by simp [revk_len]) (fun i hi => ?_)
  simp only [revk_len] at hi
  rw [revk_get s _ i hi]
  have hr : s.reverse.getD i [] = s.getD (s.length - 1 - i) [] := by
    simp [List.getD, hi, show s.length - 1 - i < s.length by omega]
  rw [hr]
  split
  · rfl
  · have : i = s.length - 1 - i := by omega
    rw [← this]

theorem f12_eq (s : List (List Int)) (hl : s.length < LIM) : f12 s = some s.reverse := by
  have hl' := hl; unfold LIM at hl'
  unfold f12 f12_s f12_0
  have := while_seq (f := f12_0_t) (fun k => ((k : Int), (s.length : Int) - 1 - k, revk s k)) (s.length / 2) (r := s.reverse) (fun k hk => ?_) ?_ (fuel_lt (by omega))
  · have e : revk s 0 = s := by
      refine list_ext (d := []) (by simp [revk_len]) (fun i hi => ?_)
      simp only [revk_len] at hi
      rw [revk_get s _ i hi, if_neg (by omega)]
    simp only [e] at this
    rw [wrap_i64 (by omega) (by omega), on_eq (by simpa using this)]
  · unfold f12_0_t f12_0_s
    have hkk : 2 * k + 1 < s.length := by omega
    have e1 : ((s.length : Int) - 1 - (k : Int)).toNat = s.length - 1 - k := by omega
    simp only [revk_len]
    rw [br_dec (by omega), gd_dec2 (by omega) (by omega), gd_dec2 (by omega) (by omega), gd_dec2 (by omega) (by omega), let_eq]
    simp only [List.length_set, revk_len]
    rw [gd_dec2 (by omega) (by omega), wrap_i64 (by omega) (by omega), wrap_i64 (by omega) (by omega), e1, Int.toNat_natCast, revk_step s k hkk]
    congr 3
    simp; omega
  · unfold f12_0_t f12_0_s
    rw [br_ndec (by simp only []; omega)]
    simp only [revk_end]

theorem f11_eq (s : List (List Int)) (hl : s.length ≤ 100000) : f11 s = some s := by
  unfold f11 f11_s
  rw [gd_yes (capOk_of (by omega))]
  refine bothO_eq (fun h => ?_)
  rw [List.isEmpty_iff] at h; rw [h]

/-! #### What a filter has -/

def bitv (f : List Int) (p : Int) : Int := bitsI .and .u8 (shrI .u8 (f.getD (p / 8).toNat 0) (p % 8)) 1
def hasB (f : List Int) (p : Int) : Bool := bitv f p == 1
/-- Might a filter have a key? -/
def mayB (f k : List Int) : Bool := !f.isEmpty && (prb (fnv k) (8 * (f.length : Int))).all (hasB f)

theorem and1 (x : Int) : bitsI .and .u8 x 1 = 0 ∨ bitsI .and .u8 x 1 = 1 := by
  show IntKind.wrap .u8 ((BitVec.ofInt 8 x &&& BitVec.ofInt 8 1).toNat : Int) = 0 ∨ IntKind.wrap .u8 ((BitVec.ofInt 8 x &&& BitVec.ofInt 8 1).toNat : Int) = 1
  have : (BitVec.ofInt 8 x &&& BitVec.ofInt 8 1).toNat ≤ 1 := by
    rw [BitVec.toNat_and]
    exact Nat.le_trans Nat.and_le_right (by decide)
  have h : (BitVec.ofInt 8 x &&& BitVec.ofInt 8 1).toNat = 0 ∨ (BitVec.ofInt 8 x &&& BitVec.ofInt 8 1).toNat = 1 := by omega
  rcases h with h | h <;> rw [h]
  · left; decide
  · right; decide

theorem bitv_zero (f : List Int) (p : Int) : (bitv f p == 0) = !hasB f p := by
  unfold hasB
  rcases and1 (shrI .u8 (f.getD (p / 8).toNat 0) (p % 8)) with h | h <;> (unfold bitv; rw [h]; rfl)

theorem f15_0_eq (f ps : List Int) (h6 : ps.length = 6) (hp : ∀ p ∈ ps, 0 ≤ p ∧ p < 8 * (f.length : Int)) (hb : f.length < 1000000) :
    f15_0 f ps 0 = some (match ps.all (hasB f) with | true => .inr () | false => .inl false) := by
  unfold f15_0
  have key : ∃ r, whileO FUEL (f15_0_t f ps) (0 : Int) = some r ∧ r = (match ps.all (hasB f) with | true => .inr () | false => .inl false) := by
    refine while_fwd (f := f15_0_t f ps) (fun k s => s = (k : Int) ∧ (ps.take k).all (hasB f) = true) (fun r => r = (match ps.all (hasB f) with | true => .inr () | false => .inl false)) 6 (s := (0 : Int)) ⟨rfl, rfl⟩ (fun k s hk hh => ?_) (fun s hh => ?_) (fuel_lt (by omega))
    · obtain ⟨hs, ha⟩ := hh
      subst hs
      have hpi := hp (ps.getD k 0) (getD_mem (by omega))
      unfold f15_0_t f15_0_s
      simp only [Int.toNat_natCast]
      rw [br_dec (by omega), gd_dec2 (by omega) (by omega), let_eq, let_eq, tdiv_pos hpi.1, tmod_pos hpi.1, wrap_i64 (by omega) (by omega), gd_dec2 (by omega) (by omega), gd_dec (by omega), wrap_i64 (by omega) (by omega)]
      rw [show bitsI .and .u8 (shrI .u8 (f.getD (ps.getD k 0 / 8).toNat 0) (ps.getD k 0 % 8)) 1 = bitv f (ps.getD k 0) from rfl, bitv_zero]
      cases hh : hasB f (ps.getD k 0)
      · right
        refine ⟨_, rfl, ?_⟩
        have : ps.all (hasB f) = false := by
          rw [List.all_eq_false]; exact ⟨ps.getD k 0, getD_mem (by omega), by rw [hh]; simp⟩
        rw [this]
      · left
        refine ⟨_, rfl, rfl, ?_⟩
        rw [take_snoc (d := 0) (by omega), List.all_append, ha]; simp only [List.all_cons, List.all_nil, hh, Bool.and_self]
    · obtain ⟨hs, ha⟩ := hh
      subst hs
      unfold f15_0_t f15_0_s
      rw [br_ndec (by simp)]
      refine ⟨_, rfl, ?_⟩
      rw [List.take_of_length_le (by omega)] at ha
      rw [ha]
  obtain ⟨r, h1, h2⟩ := key
  rw [h1, h2]

theorem f15_eq (f k : List Int) (hk : k.length < LIM) (hb : f.length < 1000000) : f15 f k = some (mayB f k) := by
  unfold f15 f15_s mayB
  cases f with
  | nil => rfl
  | cons c f =>
    rw [br_no (by simp), wrap_i64 (by simp only [List.length_cons]; omega) (by simp only [List.length_cons] at *; omega), on_eq (f92_eq k _ hk (by simp only [List.length_cons]; omega) (by simp only [List.length_cons] at *; omega)),
      on_eq (f15_0_eq (c :: f) _ (prb_len _ _) (fun p hp => prb_range (by simp only [List.length_cons]; omega) p hp) hb)]
    cases (prb (fnv k) (8 * ((c :: f).length : Int))).all (hasB (c :: f)) <;> rfl

theorem f3_5_eq (f k : List Int) (hk : k.length < LIM) (hb : f.length < 1000000) : f3_5 f k (decide (((List.length f) : Int) > 0)) 0 = some (mayB f k) := by
  unfold f3_5
  cases f with
  | nil => unfold whileO FUEL; rfl
  | cons c f =>
  have key : ∃ r, whileO FUEL (f3_5_t (c :: f) k) (decide (((List.length (c :: f)) : Int) > 0), (0 : Int)) = some r ∧ r = mayB (c :: f) k := by
    refine while_fwd (f := f3_5_t (c :: f) k) (fun i s => s = (((prb (fnv k) (8 * ((c :: f).length : Int))).take i).all (hasB (c :: f)), (i : Int))) (fun r => r = mayB (c :: f) k) 6 (s := (decide (((List.length (c :: f)) : Int) > 0), (0 : Int))) (by simp) (fun i s hi hs => ?_) (fun s hs => ?_) (fuel_lt (by omega))
    · subst hs
      generalize hf : c :: f = g at *
      have hg : 0 < g.length := by rw [← hf]; simp
      unfold f3_5_t f3_5_s
      simp only [Int.toNat_natCast]
      cases hd : ((prb (fnv k) (8 * (g.length : Int))).take i).all (hasB g)
      · right
        refine ⟨_, rfl, ?_⟩
        unfold mayB
        have : (prb (fnv k) (8 * (g.length : Int))).all (hasB g) = false := by
          rw [List.all_eq_false] at hd ⊢
          obtain ⟨x, hx, hx2⟩ := hd
          exact ⟨x, List.mem_of_mem_take hx, hx2⟩
        rw [this]; simp
      · left
        have hp := prb_range (h := fnv k) (m := 8 * (g.length : Int)) (by omega) ((prb (fnv k) (8 * (g.length : Int))).getD i 0) (getD_mem (by rw [prb_len]; omega))
        rw [br_t, br_dec (by omega), wrap_i64 (n := 8 * (g.length : Int)) (by omega) (by omega), wrap_u32 (n := 8 * (g.length : Int)) (by omega) (by omega), on_eq (f10_eq k _ hk (by omega) (by omega)), gd_dec2 (by omega) (by rw [prb_len]; omega), let_eq, let_eq,
          tdiv_pos hp.1, tmod_pos hp.1, wrap_u32 (by omega) (by omega), gd_dec2 (by omega) (by omega), gd_dec (by omega), wrap_i64 (by omega) (by omega)]
        refine ⟨_, rfl, ?_⟩
        rw [take_snoc (d := 0) (by rw [prb_len]; omega), List.all_append, hd]
        simp only [List.all_cons, List.all_nil, Bool.and_true, Bool.true_and]
        rfl
    · subst hs
      unfold f3_5_t f3_5_s
      rw [List.take_of_length_le (by rw [prb_len]; omega)]
      have hm : mayB (c :: f) k = (prb (fnv k) (8 * ((c :: f).length : Int))).all (hasB (c :: f)) := by unfold mayB; simp
      rw [hm]
      cases (prb (fnv k) (8 * ((c :: f).length : Int))).all (hasB (c :: f))
      · exact ⟨_, rfl, rfl⟩
      · rw [br_t, br_ndec (by simp)]; exact ⟨_, rfl, rfl⟩
  obtain ⟨r, h1, h2⟩ := key
  rw [h1, h2]

theorem f3_4_eq (f : List Int) (ks : List (List Int)) (hk : ∀ k ∈ ks, k.length < LIM) (hn : ks.length < LIM) (hb : f.length < 1000000) : f3_4 f (ks.length : Int) 0 ks = some (.inr ()) := by
  have hn' := hn; unfold LIM at hn'
  unfold f3_4
  refine while_seq (f := f3_4_t f (ks.length : Int) ks) (fun i => (i : Int)) ks.length (fun i hi => ?_) ?_ (lim_lt hn)
  · unfold f3_4_t f3_4_s
    have hki := hk (ks.getD i []) (getD_mem hi)
    simp only [Int.toNat_natCast]
    rw [br_dec (by omega), gd_dec2 (by omega) (by omega), let_eq, on_eq (f3_5_eq f _ hki hb), on_eq (f15_eq f _ hki hb), br_no (by simp), wrap_i64 (by omega) (by omega)]
    rfl
  · unfold f3_4_t f3_4_s
    rw [br_ndec (by simp)]

theorem f3_3_eq (other : List Int) (keys fs : List (List Int)) (hk : ∀ k ∈ keys, k.length < LIM) (hn : keys.length ≤ 1000) (hf : ∀ f ∈ fs, f.length < 1000000) (hfn : fs.length < LIM) : f3_3 other (fs.length : Int) 0 keys fs = some (.inr ()) := by
  have hn' := hfn; unfold LIM at hn'
  unfold f3_3
  refine while_seq (f := f3_3_t other (fs.length : Int) keys fs) (fun i => (i : Int)) fs.length (fun i hi => ?_) ?_ (lim_lt hfn)
  · unfold f3_3_t f3_3_s
    have hfi := hf (fs.getD i []) (getD_mem hi)
    simp only [Int.toNat_natCast]
    rw [br_dec (by omega), gd_dec2 (by omega) (by omega), on_eq (f11_eq keys (by omega)), let_eq, mnI_eq, gd_dec2 (by omega) (by omega), gd_yes (capOk_of (by omega)), let_eq,
      on_eq (f3_4_eq _ _ (fun k hk' => ?_) (by simp; unfold LIM; omega) hfi), wrap_i64 (by omega) (by omega)]
    · rfl
    · rcases List.mem_append.1 hk' with h | h
      · exact hk k h
      · simp only [List.mem_cons, List.not_mem_nil, or_false] at h
        rcases h with h | h | h | h <;> subst h
        · decide
        · decide
        · decide
        · rw [List.length_take]; unfold LIM; omega
  · unfold f3_3_t f3_3_s
    rw [br_ndec (by simp)]

theorem f3_0_eq (t : List (List Int)) (hn : t.length ≤ 1000) : f3_0 t (t.length : Int) 0 [] = some (t.map fun b => b.take (min b.length 10)) := by
  unfold f3_0
  have := while_seq (f := f3_0_t t (t.length : Int)) (fun k => ((k : Int), (t.take k).map fun b => b.take (min b.length 10))) t.length (r := t.map fun b => b.take (min b.length 10)) (fun k hk => ?_) ?_ (fuel_lt (by omega))
  · simpa using this
  · unfold f3_0_t f3_0_s
    simp only [Int.toNat_natCast]
    rw [br_dec (by omega), gd_dec2 (by omega) (by omega), let_eq, let_eq, mnI_eq, gd_dec2 (by omega) (by omega), gd_yes (capOk_of (by simp; omega)), wrap_i64 (by omega) (by omega), take_snoc (d := []) hk]
    simp only [List.map_append, List.map_cons, List.map_nil]
    congr 5
    simp
    omega
  · unfold f3_0_t f3_0_s
    rw [br_ndec (by simp)]
    simp

theorem topFiltered_law (l : List (List Int)) (other : List Int) : f3 l other = some true := by
  unfold f3 f3_s
  rw [let_eq, mnI_eq, gd_dec2 (by omega) (by omega), let_eq]
  generalize ht : List.take (min (l.length : Int) 60).toNat l = t
  have htn : t.length ≤ 60 := by rw [← ht, List.length_take]; omega
  rw [on_eq (f3_0_eq t (by omega))]
  generalize hkeys : (t.map fun b => b.take (min b.length 10)) = keys
  have hkn : keys.length = t.length := by rw [← hkeys]; simp
  have hk : ∀ k ∈ keys, k.length < LIM := by
    intro k hk
    rw [← hkeys] at hk
    obtain ⟨b, _, rfl⟩ := List.mem_map.1 hk
    rw [List.length_take]; unfold LIM; omega
  have hz : 8 ≤ szOf keys.length := by unfold szOf; omega
  have hz2 : szOf keys.length < 1000000 := by unfold szOf; omega
  have h1 := f3_1_eq keys (List.replicate (szOf keys.length) 0) hk (by unfold LIM; omega) (by simp; omega) (by simp; omega)
  simp only [List.length_replicate] at h1
  have h2 := f13_eq keys hk (by omega)
  have h3 := f13_eq keys.reverse (fun k h => hk k (by simpa using h)) (by simp; omega)
  rw [List.length_reverse, ownOf_reverse] at h3
  rw [let_eq, size_eq _ (by omega), gd_yes (by simp [capOk_of (n := szOf keys.length) (b := 1) (by omega)]), Int.toNat_natCast, on_eq h1, on_eq (f11_eq keys (by omega)), on_eq (f12_eq keys (by unfold LIM; omega)), on_eq h2, br_yes (by simp),
    on_eq h3, br_yes (by simp), on_eq (f14_eq [] (by decide)), br_yes (by decide), on_eq (f14_eq [97] (by decide)), br_no (by decide), let_eq, mnI_eq, gd_dec2 (by omega) (by omega)]
  have h4 := f3_3_eq other keys [ownOf (8 * (szOf keys.length : Int)) (List.replicate (szOf keys.length) 0) keys, List.take (min (other.length : Int) 30).toNat other, ([] : List Int), [255]] hk (by omega) (fun f hf => by
    simp only [List.mem_cons, List.not_mem_nil, or_false] at hf
    rcases hf with h | h | h | h <;> subst h
    · rw [ownOf_len]; simp; omega
    · rw [List.length_take]; omega
    · decide
    · decide) (by simp; decide)
  rw [on_eq (by simpa using h4)]
  rfl

end Go.Abs
