/- The seat's functions. -/
import Derived.Test.YthinfcjijphooaaSX
namespace Go.Abs
set_option linter.unusedVariables false
set_option linter.unusedSimpArgs false
open Go Go.Proofs

/-! #### copyhold/copyholdtop.probes -/
noncomputable def f10_calls : List (Nat × Spec) := []
noncomputable def f10_hcalls : List (Nat × HSpec) := []
noncomputable def f10_cx : Ctx := cxW 0 (fun f => f10_calls.lookup f) (fun f => f10_hcalls.lookup f)
theorem f10_callsOk : CallsOk Try.prog f10_cx := callsOk_of f10_calls f10_hcalls (fun _ => rfl) (fun _ => rfl) (by simp [f10_calls]) (by simp [f10_hcalls])
theorem f10_callsDet : CallsDet f10_cx := callsDet_of f10_calls f10_hcalls (fun _ => rfl) (fun _ => rfl) (by simp [f10_calls]) (by simp [f10_hcalls])
noncomputable def f10_0_s {α : Type} (no : α) (kn : (Int × Int) → α) (k0 : Int → α) (key1 : List Int) (h : Int) (y : Int) (y1 : Int) : α :=
  (brP (decide (y1 < y))
  (gdP no ((decide (0 ≤ y1)) && (decide (y1 < ((List.length key1) : Int))))
    (kn (IntKind.wrap .u64 ((bitsI .xor .u64 h (IntKind.wrap .u64 (List.getD key1 (Int.toNat y1) 0))) * 1099511628211), IntKind.wrap .i64 (y1 + 1))))
  (k0 h))
noncomputable def f10_0_t (key1 : List Int) (y : Int) (z : Int × Int) : Option ((Int × Int) ⊕ Int) := f10_0_s none (fun z => some (.inl z)) (fun z => some (.inr (z))) key1 z.1 y z.2
noncomputable def f10_0 (key1 : List Int) (h : Int) (y : Int) (y1 : Int) : Option (Int) := whileO FUEL (f10_0_t key1 y) (h, y1)
theorem f10_0_P (K : ((Int × Int) ⊕ Int) → Prop) (key1 : List Int) (y : Int) (z : Int × Int) : optK (f10_0_t key1 y z) K → f10_0_s False (fun z => K (.inl z)) (fun z => K (.inr (z))) key1 z.1 y z.2 := fun h => Eq.mp (by simp only [f10_0_t, f10_0_s, optK_br, optK_gd, optK_on, optK_let, optK_case, optK_yes, optK_no]) h
def f10_0_sh : SSh := ⟨slots 45 [(0, (.val .str)), (1, (.val (.int .u32))), (5, (.val (.int .u64))), (12, (.val (.int .i64))), (13, (.val (.int .i64)))], []⟩
def f10_0_e0 : SSh := ⟨slots 45 [(1, (.val (.int .u32))), (5, (.val (.int .u64)))], []⟩
noncomputable def f10_0_fin (s : f10_0_sh.L) (r : Int) (K : XK) : Prop := K (.out 0) (f10_0_e0.mk' ((s.1.2.1, r, ()), ()))
noncomputable def f10_0_f (s : f10_0_sh.L) : Option (Int) := f10_0 s.1.1 s.1.2.2.1 s.1.2.2.2.1 s.1.2.2.2.2.1
noncomputable def f10_0_S : Summ := ⟨[(0, .keep), (1, .keep), (5, .keep), (12, .keep), (13, .keep)], [(1, .keep), (5, .keep)], [(1, .keep), (5, .keep)], [(4, .keep)], runS f10_0_sh f10_0_f f10_0_fin⟩
noncomputable def f10_0_m0 : MT := (.loop [(0, .keep), (1, .keep), (5, .keep), (12, .keep), (13, .keep)] [(1, .keep), (5, .keep)] .leaf)
noncomputable def f10_0_m : MT := .sum f10_0_S f10_0_m0
noncomputable def f10_0_c : Code := blockC (seqB (seqA (seqB (seqB (bodyOf Try.f10)))))
theorem f10_0_ok : Ob.ok f10_cx ⟨f10_0_S, f10_0_c, f10_0_m0⟩ := by
  refine loop_okc (c := blockC f10_0_c) (by kernel_rfl) (fun s => by kernel_rfl) (fun s K h => ?_)
  refine while_sound (S := Int × Int) (R := Int) (mk := fun z => f10_0_sh.mk' ((s.1.1, s.1.2.1, z.1, s.1.2.2.2.1, z.2, ()), ())) (fin := fun r => f10_0_fin s r K) (fun k z h => ?_) FUEL (s.1.2.2.1, s.1.2.2.2.2.1) h
  exact Eq.mp (by kernel_rfl) (f10_0_P _ s.1.1 s.1.2.2.2.1 z h)
noncomputable def f10_1_s {α : Type} (no : α) (kn : (Int × List Int) → α) (k0 : (List Int) → α) (m2 : Int) (a : Int) (b : Int) (y2 : Int) (out : List Int) : α :=
  (brP (decide (y2 < 6))
  (gdP no (!(m2 == 0))
    (gdP no (capOk ((List.length out) + 1) 4)
    (kn (IntKind.wrap .u32 (y2 + 1), out ++ [Int.tmod (IntKind.wrap .u32 (a + (IntKind.wrap .u32 (y2 * b)))) m2]))))
  (k0 out))
noncomputable def f10_1_t (m2 : Int) (a : Int) (b : Int) (z : Int × List Int) : Option ((Int × List Int) ⊕ (List Int)) := f10_1_s none (fun z => some (.inl z)) (fun z => some (.inr (z))) m2 a b z.1 z.2
noncomputable def f10_1 (m2 : Int) (a : Int) (b : Int) (y2 : Int) (out : List Int) : Option (List Int) := whileO FUEL (f10_1_t m2 a b) (y2, out)
theorem f10_1_P (K : ((Int × List Int) ⊕ (List Int)) → Prop) (m2 : Int) (a : Int) (b : Int) (z : Int × List Int) : optK (f10_1_t m2 a b z) K → f10_1_s False (fun z => K (.inl z)) (fun z => K (.inr (z))) m2 a b z.1 z.2 := fun h => Eq.mp (by simp only [f10_1_t, f10_1_s, optK_br, optK_gd, optK_on, optK_let, optK_case, optK_yes, optK_no]) h
def f10_1_sh : SSh := ⟨slots 45 [(1, (.val (.int .u32))), (7, (.val (.int .u32))), (8, (.val (.int .u32))), (9, (.ref (.int .u32) 0)), (30, (.val (.int .u32)))], [.row (.int .u32) false]⟩
def f10_1_e0 : SSh := ⟨slots 45 [(9, (.ref (.int .u32) 0))], [.row (.int .u32) false]⟩
noncomputable def f10_1_fin (s : f10_1_sh.L) (r : List Int) (K : XK) : Prop := K (.out 2) (f10_1_e0.mk' (((), ()), (r, ())))
noncomputable def f10_1_f (s : f10_1_sh.L) : Option (List Int) := f10_1 s.1.1 s.1.2.1 s.1.2.2.1 s.1.2.2.2.2.1 s.2.1
noncomputable def f10_1_S : Summ := ⟨[(1, .keep), (7, .keep), (8, .keep), (9, .own (.int .u32)), (30, .keep)], [(9, .keep)], [(9, .keep)], [(4, .keep)], runS f10_1_sh f10_1_f f10_1_fin⟩
noncomputable def f10_1_m0 : MT := (.loop [(1, .keep), (7, .keep), (8, .keep), (9, .own (.int .u32)), (30, .keep)] [(9, .keep)] .leaf)
noncomputable def f10_1_m : MT := .sum f10_1_S f10_1_m0
noncomputable def f10_1_c : Code := blockC (seqB (seqA (seqB (seqB (seqB (seqB (seqB (bodyOf Try.f10))))))))
theorem f10_1_ok : Ob.ok f10_cx ⟨f10_1_S, f10_1_c, f10_1_m0⟩ := by
  refine loop_okc (c := blockC f10_1_c) (by kernel_rfl) (fun s => by kernel_rfl) (fun s K h => ?_)
  refine while_sound (S := Int × List Int) (R := List Int) (mk := fun z => f10_1_sh.mk' ((s.1.1, s.1.2.1, s.1.2.2.1, (), z.1, ()), (z.2, ()))) (fin := fun r => f10_1_fin s r K) (fun k z h => ?_) FUEL (s.1.2.2.2.2.1, s.2.1) h
  exact Eq.mp (by kernel_rfl) (f10_1_P _ s.1.1 s.1.2.1 s.1.2.2.1 z h)
noncomputable def f10_s {α : Type} (no : α) (kn : (List Int) → α) (key : List Int) (m : Int) : α :=
  (onP no (f10_0 key 14695981039346656037 ((List.length key) : Int) 0) fun r' =>
  (onP no (f10_1 m (IntKind.wrap .u32 r') (bitsI .or .u32 (IntKind.wrap .u32 (shrI .u64 r' 32)) 1) 0 ([] : List Int)) fun r'1 =>
  (kn r'1)))
noncomputable def f10 (key : List Int) (m : Int) : Option (List Int) := f10_s none some key m
theorem f10_P (K : (List Int) → Prop) (key : List Int) (m : Int) : optK (f10 key m) K → f10_s False K key m := fun h => Eq.mp (by simp only [f10, f10_s, optK_br, optK_gd, optK_on, optK_let, optK_case, optK_yes, optK_no]) h
noncomputable def f10_mt : MT := (.two .leaf (.two .leaf (.two (.two .leaf (.one f10_0_m)) (.two .leaf (.two .leaf (.two (.two .leaf (.one f10_1_m)) .leaf))))))
theorem f10_obls : obls (bodyOf Try.f10) f10_mt = [⟨f10_0_S, f10_0_c, f10_0_m0⟩, ⟨f10_1_S, f10_1_c, f10_1_m0⟩] := by kernel_rfl
theorem f10_ob : ∀ o ∈ obls (bodyOf Try.f10) f10_mt, Ob.ok f10_cx o := by
  rw [f10_obls]; simp only [List.forall_mem_cons]; exact ⟨f10_0_ok, f10_1_ok, by simp⟩
noncomputable def f10_spec : Spec := optSpec [some .str, some (.int .u32)] true true (fun xs => match xs with | [a0, a1] => onP none (a0.as .str) fun x0 => onP none (a1.as (.int .u32)) fun x1 => f10 x0 x1 | _ => none) (fun r => ⟨(.sl (.int .u32)), r⟩)
theorem f10_det : f10_spec.Det := optSpec_det _ _ _ _ _
theorem f10_ok : CallOk Try.prog 10 f10_spec := by
  refine callOk_of_exec rfl mixed_ok (cxW_ok _ _ _) f10_callsOk f10_callsDet Try.func10 (show Try.f10.body = some (bodyOf Try.f10) by kernel_rfl) (by decide) (rt := some (.sl (.int .u32))) f10_ob ?_
  intro xs K hl hty _ h
  obtain ⟨x0, x1, rfl⟩ := args2 hl hty
  have h1 : optK (f10 x0 x1) (fun r => K ⟨(.sl (.int .u32)), r⟩) := Eq.mp (by kernel_rfl) h
  exact Eq.mp (by kernel_rfl) (f10_P _ x0 x1 h1)

/-! #### slices.Clone[[]string,string] -/
noncomputable def f11_calls : List (Nat × Spec) := []
noncomputable def f11_hcalls : List (Nat × HSpec) := []
noncomputable def f11_cx : Ctx := cxW 0 (fun f => f11_calls.lookup f) (fun f => f11_hcalls.lookup f)
theorem f11_callsOk : CallsOk Try.prog f11_cx := callsOk_of f11_calls f11_hcalls (fun _ => rfl) (fun _ => rfl) (by simp [f11_calls]) (by simp [f11_hcalls])
theorem f11_callsDet : CallsDet f11_cx := callsDet_of f11_calls f11_hcalls (fun _ => rfl) (fun _ => rfl) (by simp [f11_calls]) (by simp [f11_hcalls])
noncomputable def f11_s {α : Type} (no : α) (bt : Bool → α → α → α) (kn : (List (List Int)) → α) (s : List (List Int)) : α :=
  (bt (List.isEmpty s)
  (kn ([] : List (List Int)))
  (gdP no (capOk (0 + (List.length s)) 16)
    (kn s)))
noncomputable def f11 (s : List (List Int)) : Option (List (List Int)) := f11_s none bothO some s
theorem f11_P (K : (List (List Int)) → Prop) (s : List (List Int)) : optK (f11 s) K → f11_s False bothP K s := by
  intro h
  unfold f11 f11_s at h
  have h := optK_both h
  simp only [bothP, optK_br, optK_gd, optK_on, optK_let, optK_case, optK_yes, optK_no] at h
  unfold f11_s
  simp only [bothP]
  exact h
noncomputable def f11_mt : MT := .leaf
theorem f11_obls : obls (bodyOf Try.f11) f11_mt = [] := by kernel_rfl
theorem f11_ob : ∀ o ∈ obls (bodyOf Try.f11) f11_mt, Ob.ok f11_cx o := by
  rw [f11_obls]; simp
noncomputable def f11_spec : Spec := optSpec [some (.sl .str)] true true (fun xs => match xs with | [a0] => onP none (a0.as (.sl .str)) fun x0 => f11 x0 | _ => none) (fun r => ⟨(.sl .str), r⟩)
theorem f11_det : f11_spec.Det := optSpec_det _ _ _ _ _
theorem f11_ok : CallOk Try.prog 11 f11_spec := by
  refine callOk_of_exec rfl mixed_ok (cxW_ok _ _ _) f11_callsOk f11_callsDet Try.func11 (show Try.f11.body = some (bodyOf Try.f11) by kernel_rfl) (by decide) (rt := some (.sl .str)) f11_ob ?_
  intro xs K hl hty _ h
  obtain ⟨x0, rfl⟩ := args1 hl hty
  have h1 : optK (f11 x0) (fun r => K ⟨(.sl .str), r⟩) := Eq.mp (by kernel_rfl) h
  exact Eq.mp (by kernel_rfl) (f11_P _ x0 h1)

/-! #### slices.Reverse[[]string,string] -/
noncomputable def f12_calls : List (Nat × Spec) := []
noncomputable def f12_hcalls : List (Nat × HSpec) := []
noncomputable def f12_cx : Ctx := cxW 1 (fun f => f12_calls.lookup f) (fun f => f12_hcalls.lookup f)
theorem f12_callsOk : CallsOk Try.prog f12_cx := callsOk_of f12_calls f12_hcalls (fun _ => rfl) (fun _ => rfl) (by simp [f12_calls]) (by simp [f12_hcalls])
theorem f12_callsDet : CallsDet f12_cx := callsDet_of f12_calls f12_hcalls (fun _ => rfl) (fun _ => rfl) (by simp [f12_calls]) (by simp [f12_hcalls])
noncomputable def f12_0_s {α : Type} (no : α) (kn : (Int × Int × List (List Int)) → α) (k0 : (List (List Int)) → α) (i : Int) (j : Int) (s1 : List (List Int)) : α :=
  (brP (decide (i < j))
  (gdP no ((decide (0 ≤ j)) && (decide (j < ((List.length s1) : Int))))
    (gdP no ((decide (0 ≤ i)) && (decide (i < ((List.length s1) : Int))))
    (gdP no ((decide (0 ≤ i)) && (decide (i < ((List.length s1) : Int))))
    (letP (List.set s1 (Int.toNat i) (List.getD s1 (Int.toNat j) ([] : List Int))) fun l =>
    (gdP no ((decide (0 ≤ j)) && (decide (j < ((List.length l) : Int))))
    (kn (IntKind.wrap .i64 (i + 1), IntKind.wrap .i64 (j - 1), List.set l (Int.toNat j) (List.getD s1 (Int.toNat i) ([] : List Int)))))))))
  (k0 s1))
noncomputable def f12_0_t  (z : Int × Int × List (List Int)) : Option ((Int × Int × List (List Int)) ⊕ (List (List Int))) := f12_0_s none (fun z => some (.inl z)) (fun z => some (.inr (z))) z.1 z.2.1 z.2.2
noncomputable def f12_0 (i : Int) (j : Int) (s1 : List (List Int)) : Option (List (List Int)) := whileO FUEL (f12_0_t ) (i, j, s1)
theorem f12_0_P (K : ((Int × Int × List (List Int)) ⊕ (List (List Int))) → Prop)  (z : Int × Int × List (List Int)) : optK (f12_0_t  z) K → f12_0_s False (fun z => K (.inl z)) (fun z => K (.inr (z))) z.1 z.2.1 z.2.2 := fun h => Eq.mp (by simp only [f12_0_t, f12_0_s, optK_br, optK_gd, optK_on, optK_let, optK_case, optK_yes, optK_no]) h
def f12_0_sh : SSh := ⟨slots 28 [(0, (.ref .str 0)), (2, (.val (.int .i64))), (3, (.val (.int .i64)))], [.row .str false]⟩
def f12_0_e0 : SSh := ⟨slots 28 [], [.row .str false]⟩
noncomputable def f12_0_fin (s : f12_0_sh.L) (r : List (List Int)) (K : XK) : Prop := K (.out 0) (f12_0_e0.mk' ((), (r, ())))
noncomputable def f12_0_f (s : f12_0_sh.L) : Option (List (List Int)) := f12_0 s.1.2.1 s.1.2.2.1 s.2.1
noncomputable def f12_0_S : Summ := ⟨[(0, .keep), (2, .keep), (3, .keep)], [], [], [], runS f12_0_sh f12_0_f f12_0_fin⟩
noncomputable def f12_0_m0 : MT := (.loop [(0, .keep), (2, .keep), (3, .keep)] [] .leaf)
noncomputable def f12_0_m : MT := .sum f12_0_S f12_0_m0
noncomputable def f12_0_c : Code := blockC (seqB (bodyOf Try.f12))
theorem f12_0_ok : Ob.ok f12_cx ⟨f12_0_S, f12_0_c, f12_0_m0⟩ := by
  refine loop_okc (c := blockC f12_0_c) (by kernel_rfl) (fun s => by kernel_rfl) (fun s K h => ?_)
  refine while_sound (S := Int × Int × List (List Int)) (R := List (List Int)) (mk := fun z => f12_0_sh.mk' (((), z.1, z.2.1, ()), (z.2.2, ()))) (fin := fun r => f12_0_fin s r K) (fun k z h => ?_) FUEL (s.1.2.1, s.1.2.2.1, s.2.1) h
  exact Eq.mp (by kernel_rfl) (f12_0_P _ z h)
noncomputable def f12_s {α : Type} (no : α) (kn : (List (List Int)) → α) (s : List (List Int)) : α :=
  (onP no (f12_0 0 (IntKind.wrap .i64 (((List.length s) : Int) - 1)) s) fun r' =>
  (kn r'))
noncomputable def f12 (s : List (List Int)) : Option (List (List Int)) := f12_s none some s
theorem f12_P (K : (List (List Int)) → Prop) (s : List (List Int)) : optK (f12 s) K → f12_s False K s := fun h => Eq.mp (by simp only [f12, f12_s, optK_br, optK_gd, optK_on, optK_let, optK_case, optK_yes, optK_no]) h
noncomputable def f12_mt : MT := (.two .leaf (.one f12_0_m))
theorem f12_obls : obls (bodyOf Try.f12) f12_mt = [⟨f12_0_S, f12_0_c, f12_0_m0⟩] := by kernel_rfl
theorem f12_ob : ∀ o ∈ obls (bodyOf Try.f12) f12_mt, Ob.ok f12_cx o := by
  rw [f12_obls]; simp only [List.forall_mem_cons]; exact ⟨f12_0_ok, by simp⟩
def f12_sh : SSh := ⟨[some (.ref .str 0)], [.row .str false]⟩
def f12_o : SSh := ⟨[some (.val (.tup .unit))], [.row .str false]⟩
noncomputable def f12_f (s : f12_sh.L) : Option (List (List Int)) := f12 s.2.1
noncomputable def f12_spec : HSpec := optHSpec [none] f12_sh f12_f (fun r => ((f12_o.mk' (((), ()), (r, ()))).env.getD 0 V.undef, (f12_o.mk' (((), ()), (r, ()))).H))
def f12_fits (xs : List V) (H : List Obj) : Bool := (f12_sh.dec ⟨xs, H⟩).isSome
theorem f12_det : f12_spec.Det := optHSpec_det _ _ _ _
theorem f12_ok : HCallOk Try.prog 12 f12_spec := by
  refine hcallOk_of_exec mixed_ok (cxW_ok _ _ _) f12_callsOk f12_callsDet Try.func12 (show Try.f12.body = some (bodyOf Try.f12) by kernel_rfl) (by decide) (md := .keep) f12_ob ?_
  intro xs H K hl h
  obtain ⟨s, rfl, rfl, h⟩ := optHSpec_run h
  refine ⟨by kernel_rfl, ?_⟩
  have h1 : optK (f12 s.2.1) (fun r => K ((f12_o.mk' (((), ()), (r, ()))).env.getD 0 V.undef) (f12_o.mk' (((), ()), (r, ()))).H) := h
  exact Eq.mp (by kernel_rfl) (f12_P _ s.2.1 h1)

/-! #### copyhold/bloom.Hash -/
noncomputable def f14_calls : List (Nat × Spec) := []
noncomputable def f14_hcalls : List (Nat × HSpec) := []
noncomputable def f14_cx : Ctx := cxW 0 (fun f => f14_calls.lookup f) (fun f => f14_hcalls.lookup f)
theorem f14_callsOk : CallsOk Try.prog f14_cx := callsOk_of f14_calls f14_hcalls (fun _ => rfl) (fun _ => rfl) (by simp [f14_calls]) (by simp [f14_hcalls])
theorem f14_callsDet : CallsDet f14_cx := callsDet_of f14_calls f14_hcalls (fun _ => rfl) (fun _ => rfl) (by simp [f14_calls]) (by simp [f14_hcalls])
noncomputable def f14_0_s {α : Type} (no : α) (kn : (Int × Int) → α) (k0 : Int → α) (h : Int) (y : Int) (y1 : Int) (y2 : List Int) : α :=
  (brP (decide (y1 < y))
  (gdP no ((decide (0 ≤ y1)) && (decide (y1 < ((List.length y2) : Int))))
    (kn (IntKind.wrap .u64 ((bitsI .xor .u64 h (IntKind.wrap .u64 (List.getD y2 (Int.toNat y1) 0))) * 1099511628211), IntKind.wrap .i64 (y1 + 1))))
  (k0 h))
noncomputable def f14_0_t (y : Int) (y2 : List Int) (z : Int × Int) : Option ((Int × Int) ⊕ Int) := f14_0_s none (fun z => some (.inl z)) (fun z => some (.inr (z))) z.1 y z.2 y2
noncomputable def f14_0 (h : Int) (y : Int) (y1 : Int) (y2 : List Int) : Option (Int) := whileO FUEL (f14_0_t y y2) (h, y1)
theorem f14_0_P (K : ((Int × Int) ⊕ Int) → Prop) (y : Int) (y2 : List Int) (z : Int × Int) : optK (f14_0_t y y2 z) K → f14_0_s False (fun z => K (.inl z)) (fun z => K (.inr (z))) z.1 y z.2 y2 := fun h => Eq.mp (by simp only [f14_0_t, f14_0_s, optK_br, optK_gd, optK_on, optK_let, optK_case, optK_yes, optK_no]) h
def f14_0_sh : SSh := ⟨slots 20 [(3, (.val (.int .u64))), (7, (.ref (.int .u8) 0)), (8, (.val (.int .i64))), (9, (.val (.int .i64)))], [.row (.int .u8) false]⟩
def f14_0_e0 : SSh := ⟨slots 20 [(3, (.val (.int .u64)))], []⟩
noncomputable def f14_0_fin (s : f14_0_sh.L) (r : Int) (K : XK) : Prop := K (.out 0) (f14_0_e0.mk' ((r, ()), ()))
noncomputable def f14_0_f (s : f14_0_sh.L) : Option (Int) := f14_0 s.1.1 s.1.2.2.1 s.1.2.2.2.1 s.2.1
noncomputable def f14_0_S : Summ := ⟨[(3, .keep), (7, .keep), (8, .keep), (9, .keep)], [(3, .keep)], [(3, .keep)], [(2, .keep)], runS f14_0_sh f14_0_f f14_0_fin⟩
noncomputable def f14_0_m0 : MT := (.loop [(3, .keep), (7, .keep), (8, .keep), (9, .keep)] [(3, .keep)] .leaf)
noncomputable def f14_0_m : MT := .sum f14_0_S f14_0_m0
noncomputable def f14_0_c : Code := blockC (seqB (seqA (seqB (seqB (bodyOf Try.f14)))))
theorem f14_0_ok : Ob.ok f14_cx ⟨f14_0_S, f14_0_c, f14_0_m0⟩ := by
  refine loop_okc (c := blockC f14_0_c) (by kernel_rfl) (fun s => by kernel_rfl) (fun s K h => ?_)
  refine while_sound (S := Int × Int) (R := Int) (mk := fun z => f14_0_sh.mk' ((z.1, (), s.1.2.2.1, z.2, ()), (s.2.1, ()))) (fin := fun r => f14_0_fin s r K) (fun k z h => ?_) FUEL (s.1.1, s.1.2.2.2.1) h
  exact Eq.mp (by kernel_rfl) (f14_0_P _ s.1.2.2.1 s.2.1 z h)
noncomputable def f14_s {α : Type} (no : α) (kn : Int → α) (key : List Int) : α :=
  (onP no (f14_0 14695981039346656037 ((List.length key) : Int) 0 key) fun r' =>
  (kn r'))
noncomputable def f14 (key : List Int) : Option (Int) := f14_s none some key
theorem f14_P (K : Int → Prop) (key : List Int) : optK (f14 key) K → f14_s False K key := fun h => Eq.mp (by simp only [f14, f14_s, optK_br, optK_gd, optK_on, optK_let, optK_case, optK_yes, optK_no]) h
noncomputable def f14_mt : MT := (.two .leaf (.two .leaf (.two (.two .leaf (.one f14_0_m)) .leaf)))
theorem f14_obls : obls (bodyOf Try.f14) f14_mt = [⟨f14_0_S, f14_0_c, f14_0_m0⟩] := by kernel_rfl
theorem f14_ob : ∀ o ∈ obls (bodyOf Try.f14) f14_mt, Ob.ok f14_cx o := by
  rw [f14_obls]; simp only [List.forall_mem_cons]; exact ⟨f14_0_ok, by simp⟩
noncomputable def f14_spec : Spec := optSpec [some .str] true false (fun xs => match xs with | [a0] => onP none (a0.as .str) fun x0 => f14 x0 | _ => none) (fun r => ⟨(.int .u64), r⟩)
theorem f14_det : f14_spec.Det := optSpec_det _ _ _ _ _
theorem f14_ok : CallOk Try.prog 14 f14_spec := by
  refine callOk_of_exec rfl mixed_ok (cxW_ok _ _ _) f14_callsOk f14_callsDet Try.func14 (show Try.f14.body = some (bodyOf Try.f14) by kernel_rfl) (by decide) (rt := some (.int .u64)) f14_ob ?_
  intro xs K hl hty _ h
  obtain ⟨x0, rfl⟩ := args1 hl hty
  have h1 : optK (f14 x0) (fun r => K ⟨(.int .u64), r⟩) := Eq.mp (by kernel_rfl) h
  exact Eq.mp (by kernel_rfl) (f14_P _ x0 h1)

/-! #### copyhold/bloom.probes -/
noncomputable def f92_calls : List (Nat × Spec) := [(14, f14_spec)]
noncomputable def f92_hcalls : List (Nat × HSpec) := []
noncomputable def f92_cx : Ctx := cxW 0 (fun f => f92_calls.lookup f) (fun f => f92_hcalls.lookup f)
theorem f92_callsOk : CallsOk Try.prog f92_cx := callsOk_of f92_calls f92_hcalls (fun _ => rfl) (fun _ => rfl) (by simp only [f92_calls, List.forall_mem_cons]; exact ⟨f14_ok, by simp⟩) (by simp [f92_hcalls])
theorem f92_callsDet : CallsDet f92_cx := callsDet_of f92_calls f92_hcalls (fun _ => rfl) (fun _ => rfl) (by simp only [f92_calls, List.forall_mem_cons]; exact ⟨f14_det, by simp⟩) (by simp [f92_hcalls])
noncomputable def f92_0_s {α : Type} (no : α) (kn : (Int × Int × List Int) → α) (k0 : (List Int) → α) (bits1 : Int) (at' : Int) (step : Int) (y : Int) (out : List Int) : α :=
  (brP (decide (y < 6))
  (gdP no (!((IntKind.wrap .u64 bits1) == 0))
    (gdP no ((decide (0 ≤ y)) && (decide (y < 6)))
    (kn (IntKind.wrap .u32 (at' + step), IntKind.wrap .i64 (y + 1), List.set out (Int.toNat y) (IntKind.wrap .i64 (Int.tmod (IntKind.wrap .u64 at') (IntKind.wrap .u64 bits1)))))))
  (k0 out))
noncomputable def f92_0_t (bits1 : Int) (step : Int) (z : Int × Int × List Int) : Option ((Int × Int × List Int) ⊕ (List Int)) := f92_0_s none (fun z => some (.inl z)) (fun z => some (.inr (z))) bits1 z.1 step z.2.1 z.2.2
noncomputable def f92_0 (bits1 : Int) (at' : Int) (step : Int) (y : Int) (out : List Int) : Option (List Int) := whileO FUEL (f92_0_t bits1 step) (at', y, out)
theorem f92_0_P (K : ((Int × Int × List Int) ⊕ (List Int)) → Prop) (bits1 : Int) (step : Int) (z : Int × Int × List Int) : optK (f92_0_t bits1 step z) K → f92_0_s False (fun z => K (.inl z)) (fun z => K (.inr (z))) bits1 z.1 step z.2.1 z.2.2 := fun h => Eq.mp (by simp only [f92_0_t, f92_0_s, optK_br, optK_gd, optK_on, optK_let, optK_case, optK_yes, optK_no]) h
def f92_0_sh : SSh := ⟨slots 34 [(1, (.val (.int .i64))), (4, (.ptr 0 [])), (6, (.val (.int .u32))), (7, (.val (.int .u32))), (8, (.ptr 1 [])), (18, (.val (.int .i64)))], [.box (.val (.arr 6 (.int .i64))) false, .box (.val (.arr 6 (.int .i64))) false]⟩
def f92_0_e0 : SSh := ⟨slots 34 [(4, (.ptr 0 [])), (8, (.ptr 1 []))], [.box (.val (.arr 6 (.int .i64))) false, .box (.val (.arr 6 (.int .i64))) false]⟩
noncomputable def f92_0_fin (s : f92_0_sh.L) (r : List Int) (K : XK) : Prop := K (.out 0) (f92_0_e0.mk' (((), (), ()), (s.2.1, r, ())))
noncomputable def f92_0_f (s : f92_0_sh.L) : Option (List Int) := f92_0 s.1.1 s.1.2.2.1 s.1.2.2.2.1 s.1.2.2.2.2.2.1 s.2.2.1
noncomputable def f92_0_S : Summ := ⟨[(1, .keep), (4, .keep), (6, .keep), (7, .keep), (8, .keep), (18, .keep)], [(4, .keep), (8, .keep)], [(4, .keep), (8, .keep)], [(4, .keep)], runS f92_0_sh f92_0_f f92_0_fin⟩
noncomputable def f92_0_m0 : MT := (.loop [(1, .keep), (4, .keep), (6, .keep), (7, .keep), (8, .keep), (18, .keep)] [(4, .keep), (8, .keep)] .leaf)
noncomputable def f92_0_m : MT := .sum f92_0_S f92_0_m0
noncomputable def f92_0_c : Code := blockC (seqB (seqA (seqB (seqB (seqB (seqB (bodyOf Try.f92)))))))
theorem f92_0_ok : Ob.ok f92_cx ⟨f92_0_S, f92_0_c, f92_0_m0⟩ := by
  refine loop_okc (c := blockC f92_0_c) (by kernel_rfl) (fun s => by kernel_rfl) (fun s K h => ?_)
  refine while_sound (S := Int × Int × List Int) (R := List Int) (mk := fun z => f92_0_sh.mk' ((s.1.1, (), z.1, s.1.2.2.2.1, (), z.2.1, ()), (s.2.1, z.2.2, ()))) (fin := fun r => f92_0_fin s r K) (fun k z h => ?_) FUEL (s.1.2.2.1, s.1.2.2.2.2.2.1, s.2.2.1) h
  exact Eq.mp (by kernel_rfl) (f92_0_P _ s.1.1 s.1.2.2.2.1 z h)
noncomputable def f92_s {α : Type} (no : α) (kn : (List Int) → α) (key : List Int) (bits : Int) : α :=
  (onP no (f14 key) fun r' =>
  (onP no (f92_0 bits (IntKind.wrap .u32 r') (bitsI .or .u32 (IntKind.wrap .u32 (shrI .u64 r' 32)) 1) 0 [0, 0, 0, 0, 0, 0]) fun r'1 =>
  (kn r'1)))
noncomputable def f92 (key : List Int) (bits : Int) : Option (List Int) := f92_s none some key bits
theorem f92_P (K : (List Int) → Prop) (key : List Int) (bits : Int) : optK (f92 key bits) K → f92_s False K key bits := fun h => Eq.mp (by simp only [f92, f92_s, optK_br, optK_gd, optK_on, optK_let, optK_case, optK_yes, optK_no]) h
noncomputable def f92_mt : MT := (.two .leaf (.two .leaf (.two .leaf (.two .leaf (.two (.two .leaf (.one f92_0_m)) .leaf)))))
theorem f92_obls : obls (bodyOf Try.f92) f92_mt = [⟨f92_0_S, f92_0_c, f92_0_m0⟩] := by kernel_rfl
theorem f92_ob : ∀ o ∈ obls (bodyOf Try.f92) f92_mt, Ob.ok f92_cx o := by
  rw [f92_obls]; simp only [List.forall_mem_cons]; exact ⟨f92_0_ok, by simp⟩
noncomputable def f92_spec : Spec := optSpec [some .str, some (.int .i64)] true false (fun xs => match xs with | [a0, a1] => onP none (a0.as .str) fun x0 => onP none (a1.as (.int .i64)) fun x1 => f92 x0 x1 | _ => none) (fun r => ⟨(.arr 6 (.int .i64)), r⟩)
theorem f92_det : f92_spec.Det := optSpec_det _ _ _ _ _
theorem f92_ok : CallOk Try.prog 92 f92_spec := by
  refine callOk_of_exec rfl mixed_ok (cxW_ok _ _ _) f92_callsOk f92_callsDet Try.func92 (show Try.f92.body = some (bodyOf Try.f92) by kernel_rfl) (by decide) (rt := some (.arr 6 (.int .i64))) f92_ob ?_
  intro xs K hl hty _ h
  obtain ⟨x0, x1, rfl⟩ := args2 hl hty
  have h1 : optK (f92 x0 x1) (fun r => K ⟨(.arr 6 (.int .i64)), r⟩) := Eq.mp (by kernel_rfl) h
  exact Eq.mp (by kernel_rfl) (f92_P _ x0 x1 h1)

/-! #### copyhold/bloom.Make -/
noncomputable def f13_calls : List (Nat × Spec) := [(92, f92_spec)]
noncomputable def f13_hcalls : List (Nat × HSpec) := []
noncomputable def f13_cx : Ctx := cxW 0 (fun f => f13_calls.lookup f) (fun f => f13_hcalls.lookup f)
theorem f13_callsOk : CallsOk Try.prog f13_cx := callsOk_of f13_calls f13_hcalls (fun _ => rfl) (fun _ => rfl) (by simp only [f13_calls, List.forall_mem_cons]; exact ⟨f92_ok, by simp⟩) (by simp [f13_hcalls])
theorem f13_callsDet : CallsDet f13_cx := callsDet_of f13_calls f13_hcalls (fun _ => rfl) (fun _ => rfl) (by simp only [f13_calls, List.forall_mem_cons]; exact ⟨f92_det, by simp⟩) (by simp [f13_hcalls])
noncomputable def f13_1_s {α : Type} (no : α) (kn : (Int × List Int) → α) (k0 : (List Int) → α) (y6 : List Int) (y7 : Int) (b1 : List Int) : α :=
  (brP (decide (y7 < 6))
  (gdP no ((decide (0 ≤ y7)) && (decide (y7 < 6)))
    (letP (List.getD y6 (Int.toNat y7) 0) fun t11 =>
    (letP (IntKind.wrap .i64 (Int.tdiv t11 8)) fun t12 =>
    (gdP no ((decide (0 ≤ t12)) && (decide (t12 < ((List.length b1) : Int))))
    (gdP no (decide (0 ≤ (Int.tmod t11 8)))
    (gdP no ((decide (0 ≤ t12)) && (decide (t12 < ((List.length b1) : Int))))
    (kn (IntKind.wrap .i64 (y7 + 1), List.set b1 (Int.toNat t12) (bitsI .or .u8 (List.getD b1 (Int.toNat t12) 0) (shlI .u8 1 (Int.tmod t11 8)))))))))))
  (k0 b1))
noncomputable def f13_1_t (y6 : List Int) (z : Int × List Int) : Option ((Int × List Int) ⊕ (List Int)) := f13_1_s none (fun z => some (.inl z)) (fun z => some (.inr (z))) y6 z.1 z.2
noncomputable def f13_1 (y6 : List Int) (y7 : Int) (b1 : List Int) : Option (List Int) := whileO FUEL (f13_1_t y6) (y7, b1)
theorem f13_1_P (K : ((Int × List Int) ⊕ (List Int)) → Prop) (y6 : List Int) (z : Int × List Int) : optK (f13_1_t y6 z) K → f13_1_s False (fun z => K (.inl z)) (fun z => K (.inr (z))) y6 z.1 z.2 := fun h => Eq.mp (by simp only [f13_1_t, f13_1_s, optK_br, optK_gd, optK_on, optK_let, optK_case, optK_yes, optK_no]) h
def f13_1_sh : SSh := ⟨slots 43 [(3, (.ref (.int .u8) 0)), (15, (.val (.sl .str))), (16, (.val (.int .i64))), (17, (.val (.int .i64))), (25, (.val (.arr 6 (.int .i64)))), (26, (.val (.int .i64)))], [.row (.int .u8) false]⟩
def f13_1_e0 : SSh := ⟨slots 43 [(3, (.ref (.int .u8) 0)), (15, (.val (.sl .str))), (16, (.val (.int .i64))), (17, (.val (.int .i64)))], [.row (.int .u8) false]⟩
noncomputable def f13_1_fin (s : f13_1_sh.L) (r : List Int) (K : XK) : Prop := K (.out 2) (f13_1_e0.mk' (((), s.1.2.1, s.1.2.2.1, s.1.2.2.2.1, ()), (r, ())))
noncomputable def f13_1_f (s : f13_1_sh.L) : Option (List Int) := f13_1 s.1.2.2.2.2.1 s.1.2.2.2.2.2.1 s.2.1
noncomputable def f13_1_S : Summ := ⟨[(3, .keep), (15, .keep), (16, .keep), (17, .keep), (25, .keep), (26, .keep)], [(3, .keep), (15, .keep), (16, .keep), (17, .keep)], [(3, .keep), (15, .keep), (16, .keep), (17, .keep)], [(2, .keep)], runS f13_1_sh f13_1_f f13_1_fin⟩
noncomputable def f13_1_m0 : MT := (.loop [(3, .keep), (15, .keep), (16, .keep), (17, .keep), (25, .keep), (26, .keep)] [(3, .keep), (15, .keep), (16, .keep), (17, .keep)] .leaf)
noncomputable def f13_1_m : MT := .sum f13_1_S f13_1_m0
noncomputable def f13_1_c : Code := blockC (seqB (seqB (blockC (seqA (seqB (seqB (blockC (blockC (seqB (seqA (seqB (seqB (bodyOf Try.f13)))))))))))))
theorem f13_1_ok : Ob.ok f13_cx ⟨f13_1_S, f13_1_c, f13_1_m0⟩ := by
  refine loop_okc (c := blockC f13_1_c) (by kernel_rfl) (fun s => by kernel_rfl) (fun s K h => ?_)
  refine while_sound (S := Int × List Int) (R := List Int) (mk := fun z => f13_1_sh.mk' (((), s.1.2.1, s.1.2.2.1, s.1.2.2.2.1, s.1.2.2.2.2.1, z.1, ()), (z.2, ()))) (fin := fun r => f13_1_fin s r K) (fun k z h => ?_) FUEL (s.1.2.2.2.2.2.1, s.2.1) h
  exact Eq.mp (by kernel_rfl) (f13_1_P _ s.1.2.2.2.2.1 z h)
noncomputable def f13_0_s {α : Type} (no : α) (kn : (Int × List Int) → α) (k0 : (List Int) → α) (y : List (List Int)) (y1 : Int) (y2 : Int) (b : List Int) : α :=
  (brP (decide (y2 < y1))
  (gdP no ((decide (0 ≤ y2)) && (decide (y2 < ((List.length y) : Int))))
    (onP no (f92 (List.getD y (Int.toNat y2) ([] : List Int)) (IntKind.wrap .i64 (8 * ((List.length b) : Int)))) fun r' =>
    (onP no (f13_1 r' 0 b) fun r'1 =>
    (kn (IntKind.wrap .i64 (y2 + 1), r'1)))))
  (k0 b))
noncomputable def f13_0_t (y : List (List Int)) (y1 : Int) (z : Int × List Int) : Option ((Int × List Int) ⊕ (List Int)) := f13_0_s none (fun z => some (.inl z)) (fun z => some (.inr (z))) y y1 z.1 z.2
noncomputable def f13_0 (y : List (List Int)) (y1 : Int) (y2 : Int) (b : List Int) : Option (List Int) := whileO FUEL (f13_0_t y y1) (y2, b)
theorem f13_0_P (K : ((Int × List Int) ⊕ (List Int)) → Prop) (y : List (List Int)) (y1 : Int) (z : Int × List Int) : optK (f13_0_t y y1 z) K → f13_0_s False (fun z => K (.inl z)) (fun z => K (.inr (z))) y y1 z.1 z.2 := fun h => Eq.mp (by simp only [f13_0_t, f13_0_s, optK_br, optK_gd, optK_on, optK_let, optK_case, optK_yes, optK_no]) h
def f13_0_sh : SSh := ⟨slots 43 [(3, (.ref (.int .u8) 0)), (15, (.val (.sl .str))), (16, (.val (.int .i64))), (17, (.val (.int .i64)))], [.row (.int .u8) false]⟩
def f13_0_e0 : SSh := ⟨slots 43 [(3, (.ref (.int .u8) 0))], [.row (.int .u8) false]⟩
noncomputable def f13_0_fin (s : f13_0_sh.L) (r : List Int) (K : XK) : Prop := K (.out 0) (f13_0_e0.mk' (((), ()), (r, ())))
noncomputable def f13_0_f (s : f13_0_sh.L) : Option (List Int) := f13_0 s.1.2.1 s.1.2.2.1 s.1.2.2.2.1 s.2.1
noncomputable def f13_0_S : Summ := ⟨[(3, .keep), (15, .keep), (16, .keep), (17, .keep)], [(3, .keep)], [(3, .keep)], [(2, .keep)], runS f13_0_sh f13_0_f f13_0_fin⟩
noncomputable def f13_0_m0 : MT := (.loop [(3, .keep), (15, .keep), (16, .keep), (17, .keep)] [(3, .keep)] (.two .leaf (.two .leaf (.two (.one (.two .leaf (.two .leaf (.one f13_1_m)))) .leaf))))
noncomputable def f13_0_m : MT := .sum f13_0_S f13_0_m0
noncomputable def f13_0_c : Code := blockC (seqB (seqA (seqB (seqB (bodyOf Try.f13)))))
theorem f13_0_ok : Ob.ok f13_cx ⟨f13_0_S, f13_0_c, f13_0_m0⟩ := by
  refine loop_okc (c := blockC f13_0_c) (by kernel_rfl) (fun s => by kernel_rfl) (fun s K h => ?_)
  refine while_sound (S := Int × List Int) (R := List Int) (mk := fun z => f13_0_sh.mk' (((), s.1.2.1, s.1.2.2.1, z.1, ()), (z.2, ()))) (fin := fun r => f13_0_fin s r K) (fun k z h => ?_) FUEL (s.1.2.2.2.1, s.2.1) h
  exact Eq.mp (by kernel_rfl) (f13_0_P _ s.1.2.1 s.1.2.2.1 z h)
noncomputable def f13_s {α : Type} (no : α) (kn : (List Int) → α) (keys : List (List Int)) : α :=
  (letP (IntKind.wrap .i64 (Int.tdiv (IntKind.wrap .i64 ((mxI (IntKind.wrap .i64 (10 * ((List.length keys) : Int))) 64) + 7)) 8)) fun t4 =>
  (gdP no (((decide (0 ≤ t4)) && (decide (t4 ≤ t4))) && (capOk (Int.toNat t4) 1))
  (onP no (f13_0 keys ((List.length keys) : Int) 0 (List.replicate (Int.toNat t4) 0)) fun r'2 =>
  (kn r'2))))
noncomputable def f13 (keys : List (List Int)) : Option (List Int) := f13_s none some keys
theorem f13_P (K : (List Int) → Prop) (keys : List (List Int)) : optK (f13 keys) K → f13_s False K keys := fun h => Eq.mp (by simp only [f13, f13_s, optK_br, optK_gd, optK_on, optK_let, optK_case, optK_yes, optK_no]) h
noncomputable def f13_mt : MT := (.two .leaf (.two .leaf (.two (.two .leaf (.one f13_0_m)) .leaf)))
theorem f13_obls : obls (bodyOf Try.f13) f13_mt = [⟨f13_0_S, f13_0_c, f13_0_m0⟩, ⟨f13_1_S, f13_1_c, f13_1_m0⟩] := by kernel_rfl
theorem f13_ob : ∀ o ∈ obls (bodyOf Try.f13) f13_mt, Ob.ok f13_cx o := by
  rw [f13_obls]; simp only [List.forall_mem_cons]; exact ⟨f13_0_ok, f13_1_ok, by simp⟩
noncomputable def f13_spec : Spec := optSpec [some (.sl .str)] true false (fun xs => match xs with | [a0] => onP none (a0.as (.sl .str)) fun x0 => f13 x0 | _ => none) (fun r => ⟨.str, r⟩)
theorem f13_det : f13_spec.Det := optSpec_det _ _ _ _ _
theorem f13_ok : CallOk Try.prog 13 f13_spec := by
  refine callOk_of_exec rfl mixed_ok (cxW_ok _ _ _) f13_callsOk f13_callsDet Try.func13 (show Try.f13.body = some (bodyOf Try.f13) by kernel_rfl) (by decide) (rt := some .str) f13_ob ?_
  intro xs K hl hty _ h
  obtain ⟨x0, rfl⟩ := args1 hl hty
  have h1 : optK (f13 x0) (fun r => K ⟨.str, r⟩) := Eq.mp (by kernel_rfl) h
  exact Eq.mp (by kernel_rfl) (f13_P _ x0 h1)

/-! #### copyhold/bloom.May -/
noncomputable def f15_calls : List (Nat × Spec) := [(92, f92_spec)]
noncomputable def f15_hcalls : List (Nat × HSpec) := []
noncomputable def f15_cx : Ctx := cxW 0 (fun f => f15_calls.lookup f) (fun f => f15_hcalls.lookup f)
theorem f15_callsOk : CallsOk Try.prog f15_cx := callsOk_of f15_calls f15_hcalls (fun _ => rfl) (fun _ => rfl) (by simp only [f15_calls, List.forall_mem_cons]; exact ⟨f92_ok, by simp⟩) (by simp [f15_hcalls])
theorem f15_callsDet : CallsDet f15_cx := callsDet_of f15_calls f15_hcalls (fun _ => rfl) (fun _ => rfl) (by simp only [f15_calls, List.forall_mem_cons]; exact ⟨f92_det, by simp⟩) (by simp [f15_hcalls])
noncomputable def f15_0_s {α : Type} (no : α) (kn : Int → α) (k0 : Bool → α) (k1 : Unit → α) (filter1 : List Int) (y : List Int) (y1 : Int) : α :=
  (brP (decide (y1 < 6))
  (gdP no ((decide (0 ≤ y1)) && (decide (y1 < 6)))
    (letP (List.getD y (Int.toNat y1) 0) fun t4 =>
    (letP (IntKind.wrap .i64 (Int.tdiv t4 8)) fun t5 =>
    (gdP no ((decide (0 ≤ t5)) && (decide (t5 < ((List.length filter1) : Int))))
    (gdP no (decide (0 ≤ (Int.tmod t4 8)))
    (brP ((bitsI .and .u8 (shrI .u8 (List.getD filter1 (Int.toNat t5) 0) (Int.tmod t4 8)) 1) == 0)
    (k0 false)
    (kn (IntKind.wrap .i64 (y1 + 1)))))))))
  (k1 ()))
noncomputable def f15_0_t (filter1 : List Int) (y : List Int) (z : Int) : Option (Int ⊕ (Bool ⊕ Unit)) := f15_0_s none (fun z => some (.inl z)) (fun z => some (.inr (.inl z))) (fun z => some (.inr (.inr z))) filter1 y z
noncomputable def f15_0 (filter1 : List Int) (y : List Int) (y1 : Int) : Option (Bool ⊕ Unit) := whileO FUEL (f15_0_t filter1 y) y1
theorem f15_0_P (K : (Int ⊕ (Bool ⊕ Unit)) → Prop) (filter1 : List Int) (y : List Int) (z : Int) : optK (f15_0_t filter1 y z) K → f15_0_s False (fun z => K (.inl z)) (fun z => K (.inr (.inl z))) (fun z => K (.inr (.inr z))) filter1 y z := fun h => Eq.mp (by simp only [f15_0_t, f15_0_s, optK_br, optK_gd, optK_on, optK_let, optK_case, optK_yes, optK_no]) h
def f15_0_sh : SSh := ⟨slots 27 [(0, (.val .str)), (13, (.val (.arr 6 (.int .i64)))), (14, (.val (.int .i64)))], []⟩
def f15_0_e0 : SSh := ⟨slots 27 [(4, (.val .bool))], []⟩
def f15_0_e1 : SSh := ⟨slots 27 [], []⟩
noncomputable def f15_0_fin (s : f15_0_sh.L) (r : Bool ⊕ Unit) (K : XK) : Prop := caseP r (fun a => K .ret (f15_0_e0.mk' ((a, ()), ()))) (fun b => K (.out 0) (f15_0_e1.mk' ((), ())))
noncomputable def f15_0_f (s : f15_0_sh.L) : Option (Bool ⊕ Unit) := f15_0 s.1.1 s.1.2.1 s.1.2.2.1
noncomputable def f15_0_S : Summ := ⟨[(0, .keep), (13, .keep), (14, .keep)], [], [], [(4, .keep)], runS f15_0_sh f15_0_f f15_0_fin⟩
noncomputable def f15_0_m0 : MT := (.loop [(0, .keep), (13, .keep), (14, .keep)] [] .leaf)
noncomputable def f15_0_m : MT := .sum f15_0_S f15_0_m0
noncomputable def f15_0_c : Code := blockC (seqB (seqA (seqB (seqB (bodyOf Try.f15)))))
theorem f15_0_ok : Ob.ok f15_cx ⟨f15_0_S, f15_0_c, f15_0_m0⟩ := by
  refine loop_okc (c := blockC f15_0_c) (by kernel_rfl) (fun s => by kernel_rfl) (fun s K h => ?_)
  refine while_sound (S := Int) (R := Bool ⊕ Unit) (mk := fun z => f15_0_sh.mk' ((s.1.1, s.1.2.1, z, ()), ())) (fin := fun r => f15_0_fin s r K) (fun k z h => ?_) FUEL s.1.2.2.1 h
  exact Eq.mp (by kernel_rfl) (f15_0_P _ s.1.1 s.1.2.1 z h)
noncomputable def f15_s {α : Type} (no : α) (kn : Bool → α) (filter : List Int) (key : List Int) : α :=
  (brP (filter == ([] : List Int))
  (kn false)
  (onP no (f92 key (IntKind.wrap .i64 (8 * ((List.length filter) : Int)))) fun r' =>
    (onP no (f15_0 filter r' 0) fun q =>
    (caseP q
    (fun r'1 => (kn r'1))
    (fun q => (letP q fun r'2 =>
      (kn true)))))))
noncomputable def f15 (filter : List Int) (key : List Int) : Option (Bool) := f15_s none some filter key
theorem f15_P (K : Bool → Prop) (filter : List Int) (key : List Int) : optK (f15 filter key) K → f15_s False K filter key := fun h => Eq.mp (by simp only [f15, f15_s, optK_br, optK_gd, optK_on, optK_let, optK_case, optK_yes, optK_no]) h
noncomputable def f15_mt : MT := (.two .leaf (.two .leaf (.two (.two .leaf (.one f15_0_m)) .leaf)))
theorem f15_obls : obls (bodyOf Try.f15) f15_mt = [⟨f15_0_S, f15_0_c, f15_0_m0⟩] := by kernel_rfl
theorem f15_ob : ∀ o ∈ obls (bodyOf Try.f15) f15_mt, Ob.ok f15_cx o := by
  rw [f15_obls]; simp only [List.forall_mem_cons]; exact ⟨f15_0_ok, by simp⟩
noncomputable def f15_spec : Spec := optSpec [some .str, some .str] true false (fun xs => match xs with | [a0, a1] => onP none (a0.as .str) fun x0 => onP none (a1.as .str) fun x1 => f15 x0 x1 | _ => none) (fun r => ⟨.bool, r⟩)
theorem f15_det : f15_spec.Det := optSpec_det _ _ _ _ _
theorem f15_ok : CallOk Try.prog 15 f15_spec := by
  refine callOk_of_exec rfl mixed_ok (cxW_ok _ _ _) f15_callsOk f15_callsDet Try.func15 (show Try.f15.body = some (bodyOf Try.f15) by kernel_rfl) (by decide) (rt := some .bool) f15_ob ?_
  intro xs K hl hty _ h
  obtain ⟨x0, x1, rfl⟩ := args2 hl hty
  have h1 : optK (f15 x0 x1) (fun r => K ⟨.bool, r⟩) := Eq.mp (by kernel_rfl) h
  exact Eq.mp (by kernel_rfl) (f15_P _ x0 x1 h1)

/-! #### copyhold/copyholdtop.TopFiltered -/
noncomputable def f3_calls : List (Nat × Spec) := [(10, f10_spec), (11, f11_spec), (13, f13_spec), (14, f14_spec), (15, f15_spec)]
noncomputable def f3_hcalls : List (Nat × HSpec) := [(12, f12_spec)]
noncomputable def f3_cx : Ctx := cxW 0 (fun f => f3_calls.lookup f) (fun f => f3_hcalls.lookup f)
theorem f3_callsOk : CallsOk Try.prog f3_cx := callsOk_of f3_calls f3_hcalls (fun _ => rfl) (fun _ => rfl) (by simp only [f3_calls, List.forall_mem_cons]; exact ⟨f10_ok, f11_ok, f13_ok, f14_ok, f15_ok, by simp⟩) (by simp only [f3_hcalls, List.forall_mem_cons]; exact ⟨f12_ok, by simp⟩)
theorem f3_callsDet : CallsDet f3_cx := callsDet_of f3_calls f3_hcalls (fun _ => rfl) (fun _ => rfl) (by simp only [f3_calls, List.forall_mem_cons]; exact ⟨f10_det, f11_det, f13_det, f14_det, f15_det, by simp⟩) (by simp only [f3_hcalls, List.forall_mem_cons]; exact ⟨f12_det, by simp⟩)
noncomputable def f3_0_s {α : Type} (no : α) (kn : (Int × List (List Int)) → α) (k0 : (List (List Int)) → α) (y : List (List Int)) (y1 : Int) (y2 : Int) (keys : List (List Int)) : α :=
  (brP (decide (y2 < y1))
  (gdP no ((decide (0 ≤ y2)) && (decide (y2 < ((List.length y) : Int))))
    (letP (List.getD y (Int.toNat y2) ([] : List Int)) fun t5 =>
    (letP (mnI ((List.length t5) : Int) 10) fun t7 =>
    (gdP no ((decide (0 ≤ t7)) && (decide (t7 ≤ ((List.length t5) : Int))))
    (gdP no (capOk ((List.length keys) + 1) 16)
    (kn (IntKind.wrap .i64 (y2 + 1), keys ++ [List.take (Int.toNat t7) t5])))))))
  (k0 keys))
noncomputable def f3_0_t (y : List (List Int)) (y1 : Int) (z : Int × List (List Int)) : Option ((Int × List (List Int)) ⊕ (List (List Int))) := f3_0_s none (fun z => some (.inl z)) (fun z => some (.inr (z))) y y1 z.1 z.2
noncomputable def f3_0 (y : List (List Int)) (y1 : Int) (y2 : Int) (keys : List (List Int)) : Option (List (List Int)) := whileO FUEL (f3_0_t y y1) (y2, keys)
theorem f3_0_P (K : ((Int × List (List Int)) ⊕ (List (List Int))) → Prop) (y : List (List Int)) (y1 : Int) (z : Int × List (List Int)) : optK (f3_0_t y y1 z) K → f3_0_s False (fun z => K (.inl z)) (fun z => K (.inr (z))) y y1 z.1 z.2 := fun h => Eq.mp (by simp only [f3_0_t, f3_0_s, optK_br, optK_gd, optK_on, optK_let, optK_case, optK_yes, optK_no]) h
def f3_0_sh : SSh := ⟨slots 167 [(1, (.val (.sl (.int .u8)))), (5, (.ref .str 0)), (26, (.val (.sl (.sl (.int .u8))))), (27, (.val (.int .i64))), (28, (.val (.int .i64)))], [.row .str false]⟩
def f3_0_e0 : SSh := ⟨slots 167 [(1, (.val (.sl (.int .u8)))), (5, (.ref .str 0))], [.row .str false]⟩
noncomputable def f3_0_fin (s : f3_0_sh.L) (r : List (List Int)) (K : XK) : Prop := K (.out 0) (f3_0_e0.mk' ((s.1.1, (), ()), (r, ())))
noncomputable def f3_0_f (s : f3_0_sh.L) : Option (List (List Int)) := f3_0 s.1.2.2.1 s.1.2.2.2.1 s.1.2.2.2.2.1 s.2.1
noncomputable def f3_0_S : Summ := ⟨[(1, .keep), (5, .own .str), (26, .keep), (27, .keep), (28, .keep)], [(1, .keep), (5, .keep)], [(1, .keep), (5, .keep)], [(4, .keep)], runS f3_0_sh f3_0_f f3_0_fin⟩
noncomputable def f3_0_m0 : MT := (.loop [(1, .keep), (5, .own .str), (26, .keep), (27, .keep), (28, .keep)] [(1, .keep), (5, .keep)] .leaf)
noncomputable def f3_0_m : MT := .sum f3_0_S f3_0_m0
noncomputable def f3_0_c : Code := blockC (seqB (seqA (seqB (seqB (bodyOf Try.f3)))))
theorem f3_0_ok : Ob.ok f3_cx ⟨f3_0_S, f3_0_c, f3_0_m0⟩ := by
  refine loop_okc (c := blockC f3_0_c) (by kernel_rfl) (fun s => by kernel_rfl) (fun s K h => ?_)
  refine while_sound (S := Int × List (List Int)) (R := List (List Int)) (mk := fun z => f3_0_sh.mk' ((s.1.1, (), s.1.2.2.1, s.1.2.2.2.1, z.1, ()), (z.2, ()))) (fin := fun r => f3_0_fin s r K) (fun k z h => ?_) FUEL (s.1.2.2.2.2.1, s.2.1) h
  exact Eq.mp (by kernel_rfl) (f3_0_P _ s.1.2.2.1 s.1.2.2.2.1 z h)
noncomputable def f3_2_s {α : Type} (no : α) (kn : (Int × List Int) → α) (k0 : (List Int) → α) (y7 : Int) (y8 : Int) (own1 : List Int) (y9 : List Int) : α :=
  (brP (decide (y8 < y7))
  (gdP no ((decide (0 ≤ y8)) && (decide (y8 < ((List.length y9) : Int))))
    (letP (List.getD y9 (Int.toNat y8) 0) fun t22 =>
    (letP (IntKind.wrap .u32 (Int.tdiv t22 8)) fun t23 =>
    (gdP no ((decide (0 ≤ t23)) && (decide (t23 < ((List.length own1) : Int))))
    (gdP no (decide (0 ≤ (Int.tmod t22 8)))
    (gdP no ((decide (0 ≤ t23)) && (decide (t23 < ((List.length own1) : Int))))
    (kn (IntKind.wrap .i64 (y8 + 1), List.set own1 (Int.toNat t23) (bitsI .or .u8 (List.getD own1 (Int.toNat t23) 0) (shlI .u8 1 (Int.tmod t22 8)))))))))))
  (k0 own1))
noncomputable def f3_2_t (y7 : Int) (y9 : List Int) (z : Int × List Int) : Option ((Int × List Int) ⊕ (List Int)) := f3_2_s none (fun z => some (.inl z)) (fun z => some (.inr (z))) y7 z.1 z.2 y9
noncomputable def f3_2 (y7 : Int) (y8 : Int) (own1 : List Int) (y9 : List Int) : Option (List Int) := whileO FUEL (f3_2_t y7 y9) (y8, own1)
theorem f3_2_P (K : ((Int × List Int) ⊕ (List Int)) → Prop) (y7 : Int) (y9 : List Int) (z : Int × List Int) : optK (f3_2_t y7 y9 z) K → f3_2_s False (fun z => K (.inl z)) (fun z => K (.inr (z))) y7 z.1 z.2 y9 := fun h => Eq.mp (by simp only [f3_2_t, f3_2_s, optK_br, optK_gd, optK_on, optK_let, optK_case, optK_yes, optK_no]) h
def f3_2_sh : SSh := ⟨slots 167 [(1, (.val (.sl (.int .u8)))), (5, (.ref .str 0)), (8, (.val (.int .i64))), (9, (.ref (.int .u8) 1)), (50, (.ref .str 0)), (51, (.val (.int .i64))), (52, (.val (.int .i64))), (60, (.ref (.int .u32) 2)), (61, (.val (.int .i64))), (62, (.val (.int .i64)))], [.row .str false, .row (.int .u8) false, .row (.int .u32) false]⟩
def f3_2_e0 : SSh := ⟨slots 167 [(1, (.val (.sl (.int .u8)))), (5, (.ref .str 0)), (8, (.val (.int .i64))), (9, (.ref (.int .u8) 1)), (50, (.ref .str 0)), (51, (.val (.int .i64))), (52, (.val (.int .i64)))], [.row .str false, .row (.int .u8) false]⟩
noncomputable def f3_2_fin (s : f3_2_sh.L) (r : List Int) (K : XK) : Prop := K (.out 4) (f3_2_e0.mk' ((s.1.1, (), s.1.2.2.1, (), (), s.1.2.2.2.2.2.1, s.1.2.2.2.2.2.2.1, ()), (s.2.1, r, ())))
noncomputable def f3_2_f (s : f3_2_sh.L) : Option (List Int) := f3_2 s.1.2.2.2.2.2.2.2.2.1 s.1.2.2.2.2.2.2.2.2.2.1 s.2.2.1 s.2.2.2.1
noncomputable def f3_2_S : Summ := ⟨[(1, .keep), (5, .keep), (8, .keep), (9, .keep), (50, .keep), (51, .keep), (52, .keep), (60, .keep), (61, .keep), (62, .keep)], [(1, .keep), (5, .keep), (8, .keep), (9, .keep), (50, .keep), (51, .keep), (52, .keep)], [(1, .keep), (5, .keep), (8, .keep), (9, .keep), (50, .keep), (51, .keep), (52, .keep)], [(4, .keep)], runS f3_2_sh f3_2_f f3_2_fin⟩
noncomputable def f3_2_m0 : MT := (.loop [(1, .keep), (5, .keep), (8, .keep), (9, .keep), (50, .keep), (51, .keep), (52, .keep), (60, .keep), (61, .keep), (62, .keep)] [(1, .keep), (5, .keep), (8, .keep), (9, .keep), (50, .keep), (51, .keep), (52, .keep)] .leaf)
noncomputable def f3_2_m : MT := .sum f3_2_S f3_2_m0
noncomputable def f3_2_c : Code := blockC (seqB (seqB (blockC (seqA (seqB (seqB (blockC (blockC (seqB (seqA (seqB (seqB (seqB (seqB (seqB (bodyOf Try.f3))))))))))))))))
theorem f3_2_ok : Ob.ok f3_cx ⟨f3_2_S, f3_2_c, f3_2_m0⟩ := by
  refine loop_okc (c := blockC f3_2_c) (by kernel_rfl) (fun s => by kernel_rfl) (fun s K h => ?_)
  refine while_sound (S := Int × List Int) (R := List Int) (mk := fun z => f3_2_sh.mk' ((s.1.1, (), s.1.2.2.1, (), (), s.1.2.2.2.2.2.1, s.1.2.2.2.2.2.2.1, (), s.1.2.2.2.2.2.2.2.2.1, z.1, ()), (s.2.1, z.2, s.2.2.2.1, ()))) (fin := fun r => f3_2_fin s r K) (fun k z h => ?_) FUEL (s.1.2.2.2.2.2.2.2.2.2.1, s.2.2.1) h
  exact Eq.mp (by kernel_rfl) (f3_2_P _ s.1.2.2.2.2.2.2.2.2.1 s.2.2.2.1 z h)
noncomputable def f3_1_s {α : Type} (no : α) (kn : (Int × List Int) → α) (k0 : (List Int) → α) (size : Int) (y3 : Int) (y4 : Int) (keys1 : List (List Int)) (own : List Int) : α :=
  (brP (decide (y4 < y3))
  (gdP no ((decide (0 ≤ y4)) && (decide (y4 < ((List.length keys1) : Int))))
    (onP no (f10 (List.getD keys1 (Int.toNat y4) ([] : List Int)) (IntKind.wrap .u32 (IntKind.wrap .i64 (8 * size)))) fun r'1 =>
    (onP no (f3_2 ((List.length r'1) : Int) 0 own r'1) fun r'2 =>
    (kn (IntKind.wrap .i64 (y4 + 1), r'2)))))
  (k0 own))
noncomputable def f3_1_t (size : Int) (y3 : Int) (keys1 : List (List Int)) (z : Int × List Int) : Option ((Int × List Int) ⊕ (List Int)) := f3_1_s none (fun z => some (.inl z)) (fun z => some (.inr (z))) size y3 z.1 keys1 z.2
noncomputable def f3_1 (size : Int) (y3 : Int) (y4 : Int) (keys1 : List (List Int)) (own : List Int) : Option (List Int) := whileO FUEL (f3_1_t size y3 keys1) (y4, own)
theorem f3_1_P (K : ((Int × List Int) ⊕ (List Int)) → Prop) (size : Int) (y3 : Int) (keys1 : List (List Int)) (z : Int × List Int) : optK (f3_1_t size y3 keys1 z) K → f3_1_s False (fun z => K (.inl z)) (fun z => K (.inr (z))) size y3 z.1 keys1 z.2 := fun h => Eq.mp (by simp only [f3_1_t, f3_1_s, optK_br, optK_gd, optK_on, optK_let, optK_case, optK_yes, optK_no]) h
def f3_1_sh : SSh := ⟨slots 167 [(1, (.val (.sl (.int .u8)))), (5, (.ref .str 0)), (8, (.val (.int .i64))), (9, (.ref (.int .u8) 1)), (50, (.ref .str 0)), (51, (.val (.int .i64))), (52, (.val (.int .i64)))], [.row .str false, .row (.int .u8) false]⟩
def f3_1_e0 : SSh := ⟨slots 167 [(1, (.val (.sl (.int .u8)))), (5, (.ref .str 0)), (9, (.ref (.int .u8) 1))], [.row .str false, .row (.int .u8) false]⟩
noncomputable def f3_1_fin (s : f3_1_sh.L) (r : List Int) (K : XK) : Prop := K (.out 2) (f3_1_e0.mk' ((s.1.1, (), (), ()), (s.2.1, r, ())))
noncomputable def f3_1_f (s : f3_1_sh.L) : Option (List Int) := f3_1 s.1.2.2.1 s.1.2.2.2.2.2.1 s.1.2.2.2.2.2.2.1 s.2.1 s.2.2.1
noncomputable def f3_1_S : Summ := ⟨[(1, .keep), (5, .keep), (8, .keep), (9, .keep), (50, .keep), (51, .keep), (52, .keep)], [(1, .keep), (5, .keep), (9, .keep)], [(1, .keep), (5, .keep), (9, .keep)], [(4, .keep)], runS f3_1_sh f3_1_f f3_1_fin⟩
noncomputable def f3_1_m0 : MT := (.loop [(1, .keep), (5, .keep), (8, .keep), (9, .keep), (50, .keep), (51, .keep), (52, .keep)] [(1, .keep), (5, .keep), (9, .keep)] (.two .leaf (.two .leaf (.two (.one (.two .leaf (.two .leaf (.one f3_2_m)))) .leaf))))
noncomputable def f3_1_m : MT := .sum f3_1_S f3_1_m0
noncomputable def f3_1_c : Code := blockC (seqB (seqA (seqB (seqB (seqB (seqB (seqB (bodyOf Try.f3))))))))
theorem f3_1_ok : Ob.ok f3_cx ⟨f3_1_S, f3_1_c, f3_1_m0⟩ := by
  refine loop_okc (c := blockC f3_1_c) (by kernel_rfl) (fun s => by kernel_rfl) (fun s K h => ?_)
  refine while_sound (S := Int × List Int) (R := List Int) (mk := fun z => f3_1_sh.mk' ((s.1.1, (), s.1.2.2.1, (), (), s.1.2.2.2.2.2.1, z.1, ()), (s.2.1, z.2, ()))) (fin := fun r => f3_1_fin s r K) (fun k z h => ?_) FUEL (s.1.2.2.2.2.2.2.1, s.2.2.1) h
  exact Eq.mp (by kernel_rfl) (f3_1_P _ s.1.2.2.1 s.1.2.2.2.2.2.1 s.2.1 z h)
noncomputable def f3_5_s {α : Type} (no : α) (kn : (Bool × Int) → α) (k0 : Bool → α) (f1 : List Int) (k' : List Int) (due : Bool) (i : Int) : α :=
  (brP due
  (brP (decide (i < 6))
    (onP no (f10 k' (IntKind.wrap .u32 (IntKind.wrap .i64 (8 * ((List.length f1) : Int))))) fun r'11 =>
      (gdP no ((decide (0 ≤ i)) && (decide (i < ((List.length r'11) : Int))))
      (letP (List.getD r'11 (Int.toNat i) 0) fun t51 =>
      (letP (IntKind.wrap .u32 (Int.tdiv t51 8)) fun t52 =>
      (gdP no ((decide (0 ≤ t52)) && (decide (t52 < ((List.length f1) : Int))))
      (gdP no (decide (0 ≤ (Int.tmod t51 8)))
      (kn ((bitsI .and .u8 (shrI .u8 (List.getD f1 (Int.toNat t52) 0) (Int.tmod t51 8)) 1) == 1, IntKind.wrap .i64 (i + 1)))))))))
    (k0 due))
  (k0 due))
noncomputable def f3_5_t (f1 : List Int) (k' : List Int) (z : Bool × Int) : Option ((Bool × Int) ⊕ Bool) := f3_5_s none (fun z => some (.inl z)) (fun z => some (.inr (z))) f1 k' z.1 z.2
noncomputable def f3_5 (f1 : List Int) (k' : List Int) (due : Bool) (i : Int) : Option (Bool) := whileO FUEL (f3_5_t f1 k') (due, i)
theorem f3_5_P (K : ((Bool × Int) ⊕ Bool) → Prop) (f1 : List Int) (k' : List Int) (z : Bool × Int) : optK (f3_5_t f1 k' z) K → f3_5_s False (fun z => K (.inl z)) (fun z => K (.inr (z))) f1 k' z.1 z.2 := fun h => Eq.mp (by simp only [f3_5_t, f3_5_s, optK_br, optK_gd, optK_on, optK_let, optK_case, optK_yes, optK_no]) h
def f3_5_sh : SSh := ⟨slots 167 [(1, (.val (.sl (.int .u8)))), (5, (.ref .str 0)), (16, (.val (.sl (.int .u8)))), (18, (.val .str)), (19, (.val .bool)), (20, (.val (.int .i64))), (109, (.ref (.sl (.int .u8)) 1)), (110, (.val (.int .i64))), (111, (.val (.int .i64))), (124, (.ref .str 2)), (125, (.val (.int .i64))), (126, (.val (.int .i64)))], [.row .str false, .row (.sl (.int .u8)) false, .row .str false]⟩
def f3_5_e0 : SSh := ⟨slots 167 [(1, (.val (.sl (.int .u8)))), (5, (.ref .str 0)), (16, (.val (.sl (.int .u8)))), (18, (.val .str)), (19, (.val .bool)), (109, (.ref (.sl (.int .u8)) 1)), (110, (.val (.int .i64))), (111, (.val (.int .i64))), (124, (.ref .str 2)), (125, (.val (.int .i64))), (126, (.val (.int .i64)))], [.row .str false, .row (.sl (.int .u8)) false, .row .str false]⟩
noncomputable def f3_5_fin (s : f3_5_sh.L) (r : Bool) (K : XK) : Prop := K (.out 10) (f3_5_e0.mk' ((s.1.1, (), s.1.2.2.1, s.1.2.2.2.1, r, (), s.1.2.2.2.2.2.2.2.1, s.1.2.2.2.2.2.2.2.2.1, (), s.1.2.2.2.2.2.2.2.2.2.2.1, s.1.2.2.2.2.2.2.2.2.2.2.2.1, ()), (s.2.1, s.2.2.1, s.2.2.2.1, ())))
noncomputable def f3_5_f (s : f3_5_sh.L) : Option (Bool) := f3_5 s.1.2.2.1 s.1.2.2.2.1 s.1.2.2.2.2.1 s.1.2.2.2.2.2.1
noncomputable def f3_5_S : Summ := ⟨[(1, .keep), (5, .keep), (16, .keep), (18, .keep), (19, .keep), (20, .keep), (109, .keep), (110, .keep), (111, .keep), (124, .keep), (125, .keep), (126, .keep)], [(1, .keep), (5, .keep), (16, .keep), (18, .keep), (19, .keep), (109, .keep), (110, .keep), (111, .keep), (124, .keep), (125, .keep), (126, .keep)], [(1, .keep), (5, .keep), (16, .keep), (18, .keep), (19, .keep), (109, .keep), (110, .keep), (111, .keep), (124, .keep), (125, .keep), (126, .keep)], [(4, .keep)], runS f3_5_sh f3_5_f f3_5_fin⟩
noncomputable def f3_5_m0 : MT := (.loop [(1, .keep), (5, .keep), (16, .keep), (18, .keep), (19, .keep), (20, .keep), (109, .keep), (110, .keep), (111, .keep), (124, .keep), (125, .keep), (126, .keep)] [(1, .keep), (5, .keep), (16, .keep), (18, .keep), (19, .keep), (109, .keep), (110, .keep), (111, .keep), (124, .keep), (125, .keep), (126, .keep)] .leaf)
noncomputable def f3_5_m : MT := .sum f3_5_S f3_5_m0
noncomputable def f3_5_c : Code := blockC (seqB (seqA (seqB (seqB (blockC (seqA (seqB (seqB (blockC (blockC (seqB (seqB (blockC (seqA (seqB (seqB (blockC (blockC (seqB (seqA (seqB (seqB (seqB (seqB (seqB (seqB (seqB (seqB (seqB (bodyOf Try.f3))))))))))))))))))))))))))))))
theorem f3_5_ok : Ob.ok f3_cx ⟨f3_5_S, f3_5_c, f3_5_m0⟩ := by
  refine loop_okc (c := blockC f3_5_c) (by kernel_rfl) (fun s => by kernel_rfl) (fun s K h => ?_)
  refine while_sound (S := Bool × Int) (R := Bool) (mk := fun z => f3_5_sh.mk' ((s.1.1, (), s.1.2.2.1, s.1.2.2.2.1, z.1, z.2, (), s.1.2.2.2.2.2.2.2.1, s.1.2.2.2.2.2.2.2.2.1, (), s.1.2.2.2.2.2.2.2.2.2.2.1, s.1.2.2.2.2.2.2.2.2.2.2.2.1, ()), (s.2.1, s.2.2.1, s.2.2.2.1, ()))) (fin := fun r => f3_5_fin s r K) (fun k z h => ?_) FUEL (s.1.2.2.2.2.1, s.1.2.2.2.2.2.1) h
  exact Eq.mp (by kernel_rfl) (f3_5_P _ s.1.2.2.1 s.1.2.2.2.1 z h)
noncomputable def f3_4_s {α : Type} (no : α) (kn : Int → α) (k0 : Bool → α) (k1 : Unit → α) (f : List Int) (y15 : Int) (y16 : Int) (y18 : List (List Int)) : α :=
  (brP (decide (y16 < y15))
  (gdP no ((decide (0 ≤ y16)) && (decide (y16 < ((List.length y18) : Int))))
    (letP (List.getD y18 (Int.toNat y16) ([] : List Int)) fun t44 =>
    (onP no (f3_5 f t44 (decide (((List.length f) : Int) > 0)) 0) fun r'12 =>
    (onP no (f15 f t44) fun r'13 =>
    (brP (!((r'13 == r'12)))
    (k0 false)
    (kn (IntKind.wrap .i64 (y16 + 1))))))))
  (k1 ()))
noncomputable def f3_4_t (f : List Int) (y15 : Int) (y18 : List (List Int)) (z : Int) : Option (Int ⊕ (Bool ⊕ Unit)) := f3_4_s none (fun z => some (.inl z)) (fun z => some (.inr (.inl z))) (fun z => some (.inr (.inr z))) f y15 z y18
noncomputable def f3_4 (f : List Int) (y15 : Int) (y16 : Int) (y18 : List (List Int)) : Option (Bool ⊕ Unit) := whileO FUEL (f3_4_t f y15 y18) y16
theorem f3_4_P (K : (Int ⊕ (Bool ⊕ Unit)) → Prop) (f : List Int) (y15 : Int) (y18 : List (List Int)) (z : Int) : optK (f3_4_t f y15 y18 z) K → f3_4_s False (fun z => K (.inl z)) (fun z => K (.inr (.inl z))) (fun z => K (.inr (.inr z))) f y15 z y18 := fun h => Eq.mp (by simp only [f3_4_t, f3_4_s, optK_br, optK_gd, optK_on, optK_let, optK_case, optK_yes, optK_no]) h
def f3_4_sh : SSh := ⟨slots 167 [(1, (.val (.sl (.int .u8)))), (5, (.ref .str 0)), (16, (.val (.sl (.int .u8)))), (109, (.ref (.sl (.int .u8)) 1)), (110, (.val (.int .i64))), (111, (.val (.int .i64))), (124, (.ref .str 2)), (125, (.val (.int .i64))), (126, (.val (.int .i64)))], [.row .str false, .row (.sl (.int .u8)) false, .row .str false]⟩
def f3_4_e0 : SSh := ⟨slots 167 [(4, (.val .bool))], []⟩
def f3_4_e1 : SSh := ⟨slots 167 [(1, (.val (.sl (.int .u8)))), (5, (.ref .str 0)), (109, (.ref (.sl (.int .u8)) 1)), (110, (.val (.int .i64))), (111, (.val (.int .i64)))], [.row .str false, .row (.sl (.int .u8)) false]⟩
noncomputable def f3_4_fin (s : f3_4_sh.L) (r : Bool ⊕ Unit) (K : XK) : Prop := caseP r (fun a => K .ret (f3_4_e0.mk' ((a, ()), ()))) (fun b => K (.out 8) (f3_4_e1.mk' ((s.1.1, (), (), s.1.2.2.2.2.1, s.1.2.2.2.2.2.1, ()), (s.2.1, s.2.2.1, ()))))
noncomputable def f3_4_f (s : f3_4_sh.L) : Option (Bool ⊕ Unit) := f3_4 s.1.2.2.1 s.1.2.2.2.2.2.2.2.1 s.1.2.2.2.2.2.2.2.2.1 s.2.2.2.1
noncomputable def f3_4_S : Summ := ⟨[(1, .keep), (5, .keep), (16, .keep), (109, .keep), (110, .keep), (111, .keep), (124, .keep), (125, .keep), (126, .keep)], [(1, .keep), (5, .keep), (109, .keep), (110, .keep), (111, .keep)], [(1, .keep), (5, .keep), (109, .keep), (110, .keep), (111, .keep)], [(4, .keep)], runS f3_4_sh f3_4_f f3_4_fin⟩
noncomputable def f3_4_m0 : MT := (.loop [(1, .keep), (5, .keep), (16, .keep), (109, .keep), (110, .keep), (111, .keep), (124, .keep), (125, .keep), (126, .keep)] [(1, .keep), (5, .keep), (109, .keep), (110, .keep), (111, .keep)] (.two .leaf (.two .leaf (.two (.one (.two .leaf (.two .leaf (.two (.two .leaf (.one f3_5_m)) .leaf)))) .leaf))))
noncomputable def f3_4_m : MT := .sum f3_4_S f3_4_m0
noncomputable def f3_4_c : Code := blockC (seqB (seqB (blockC (seqA (seqB (seqB (blockC (blockC (seqB (seqA (seqB (seqB (seqB (seqB (seqB (seqB (seqB (seqB (seqB (bodyOf Try.f3))))))))))))))))))))
theorem f3_4_ok : Ob.ok f3_cx ⟨f3_4_S, f3_4_c, f3_4_m0⟩ := by
  refine loop_okc (c := blockC f3_4_c) (by kernel_rfl) (fun s => by kernel_rfl) (fun s K h => ?_)
  refine while_sound (S := Int) (R := Bool ⊕ Unit) (mk := fun z => f3_4_sh.mk' ((s.1.1, (), s.1.2.2.1, (), s.1.2.2.2.2.1, s.1.2.2.2.2.2.1, (), s.1.2.2.2.2.2.2.2.1, z, ()), (s.2.1, s.2.2.1, s.2.2.2.1, ()))) (fin := fun r => f3_4_fin s r K) (fun k z h => ?_) FUEL s.1.2.2.2.2.2.2.2.2.1 h
  exact Eq.mp (by kernel_rfl) (f3_4_P _ s.1.2.2.1 s.1.2.2.2.2.2.2.2.1 s.2.2.2.1 z h)
noncomputable def f3_3_s {α : Type} (no : α) (kn : Int → α) (k0 : Bool → α) (k1 : Unit → α) (other4 : List Int) (y10 : Int) (y11 : Int) (keys3 : List (List Int)) (y12 : List (List Int)) : α :=
  (brP (decide (y11 < y10))
  (gdP no ((decide (0 ≤ y11)) && (decide (y11 < ((List.length y12) : Int))))
    (onP no (f11 keys3) fun r'10 =>
    (letP (mnI ((List.length other4) : Int) 3) fun t40 =>
    (gdP no ((decide (0 ≤ t40)) && (decide (t40 ≤ ((List.length other4) : Int))))
    (gdP no (capOk ((List.length r'10) + 4) 16)
    (letP (r'10 ++ [([] : List Int), [97], [122, 122], List.take (Int.toNat t40) other4]) fun l4 =>
    (onP no (f3_4 (List.getD y12 (Int.toNat y11) ([] : List Int)) ((List.length l4) : Int) 0 l4) fun q =>
    (caseP q
    (fun r'14 => (k0 r'14))
    (fun q => (letP q fun r'15 =>
      (kn (IntKind.wrap .i64 (y11 + 1)))))))))))))
  (k1 ()))
noncomputable def f3_3_t (other4 : List Int) (y10 : Int) (keys3 : List (List Int)) (y12 : List (List Int)) (z : Int) : Option (Int ⊕ (Bool ⊕ Unit)) := f3_3_s none (fun z => some (.inl z)) (fun z => some (.inr (.inl z))) (fun z => some (.inr (.inr z))) other4 y10 z keys3 y12
noncomputable def f3_3 (other4 : List Int) (y10 : Int) (y11 : Int) (keys3 : List (List Int)) (y12 : List (List Int)) : Option (Bool ⊕ Unit) := whileO FUEL (f3_3_t other4 y10 keys3 y12) y11
theorem f3_3_P (K : (Int ⊕ (Bool ⊕ Unit)) → Prop) (other4 : List Int) (y10 : Int) (keys3 : List (List Int)) (y12 : List (List Int)) (z : Int) : optK (f3_3_t other4 y10 keys3 y12 z) K → f3_3_s False (fun z => K (.inl z)) (fun z => K (.inr (.inl z))) (fun z => K (.inr (.inr z))) other4 y10 z keys3 y12 := fun h => Eq.mp (by simp only [f3_3_t, f3_3_s, optK_br, optK_gd, optK_on, optK_let, optK_case, optK_yes, optK_no]) h
def f3_3_sh : SSh := ⟨slots 167 [(1, (.val (.sl (.int .u8)))), (5, (.ref .str 0)), (109, (.ref (.sl (.int .u8)) 1)), (110, (.val (.int .i64))), (111, (.val (.int .i64)))], [.row .str false, .row (.sl (.int .u8)) false]⟩
def f3_3_e0 : SSh := ⟨slots 167 [(4, (.val .bool))], []⟩
def f3_3_e1 : SSh := ⟨slots 167 [], []⟩
noncomputable def f3_3_fin (s : f3_3_sh.L) (r : Bool ⊕ Unit) (K : XK) : Prop := caseP r (fun a => K .ret (f3_3_e0.mk' ((a, ()), ()))) (fun b => K (.out 6) (f3_3_e1.mk' ((), ())))
noncomputable def f3_3_f (s : f3_3_sh.L) : Option (Bool ⊕ Unit) := f3_3 s.1.1 s.1.2.2.2.1 s.1.2.2.2.2.1 s.2.1 s.2.2.1
noncomputable def f3_3_S : Summ := ⟨[(1, .keep), (5, .keep), (109, .keep), (110, .keep), (111, .keep)], [], [], [(4, .keep)], runS f3_3_sh f3_3_f f3_3_fin⟩
noncomputable def f3_3_m0 : MT := (.loop [(1, .keep), (5, .keep), (109, .keep), (110, .keep), (111, .keep)] [] (.two .leaf (.two .leaf (.two (.one (.two .leaf (.two .leaf (.one f3_4_m)))) .leaf))))
noncomputable def f3_3_m : MT := .sum f3_3_S f3_3_m0
noncomputable def f3_3_c : Code := blockC (seqB (seqA (seqB (seqB (seqB (seqB (seqB (seqB (seqB (seqB (seqB (bodyOf Try.f3))))))))))))
theorem f3_3_ok : Ob.ok f3_cx ⟨f3_3_S, f3_3_c, f3_3_m0⟩ := by
  refine loop_okc (c := blockC f3_3_c) (by kernel_rfl) (fun s => by kernel_rfl) (fun s K h => ?_)
  refine while_sound (S := Int) (R := Bool ⊕ Unit) (mk := fun z => f3_3_sh.mk' ((s.1.1, (), (), s.1.2.2.2.1, z, ()), (s.2.1, s.2.2.1, ()))) (fin := fun r => f3_3_fin s r K) (fun k z h => ?_) FUEL s.1.2.2.2.2.1 h
  exact Eq.mp (by kernel_rfl) (f3_3_P _ s.1.1 s.1.2.2.2.1 s.2.1 s.2.2.1 z h)
noncomputable def f3_s {α : Type} (no : α) (kn : Bool → α) (l : List (List Int)) (other : List Int) : α :=
  (letP (mnI ((List.length l) : Int) 60) fun t1 =>
  (gdP no ((decide (0 ≤ t1)) && (decide (t1 ≤ ((List.length l) : Int))))
  (letP (List.take (Int.toNat t1) l) fun t2 =>
  (onP no (f3_0 t2 ((List.length t2) : Int) 0 ([] : List (List Int))) fun r' =>
  (letP (IntKind.wrap .i64 (Int.tdiv (IntKind.wrap .i64 ((mxI (IntKind.wrap .i64 (10 * ((List.length r') : Int))) 64) + 7)) 8)) fun t14 =>
  (gdP no (((decide (0 ≤ t14)) && (decide (t14 ≤ t14))) && (capOk (Int.toNat t14) 1))
  (onP no (f3_1 t14 ((List.length r') : Int) 0 r' (List.replicate (Int.toNat t14) 0)) fun r'3 =>
  (onP no (f11 r') fun r'4 =>
  (onP no (f12 r'4) fun r'5 =>
  (onP no (f13 r') fun r'6 =>
  (brP (!(!(r'6 == r'3)))
  (onP no (f13 r'5) fun r'7 =>
    (brP (!(!(r'7 == r'3)))
    (onP no (f14 ([] : List Int)) fun r'8 =>
      (brP (!(r'8 != 14695981039346656037))
      (onP no (f14 [97]) fun r'9 =>
        (brP (r'9 != 12638187200555641996)
        (kn false)
        (letP (mnI ((List.length other) : Int) 30) fun t35 =>
          (gdP no ((decide (0 ≤ t35)) && (decide (t35 ≤ ((List.length other) : Int))))
          (onP no (f3_3 other 4 0 r' [r'3, List.take (Int.toNat t35) other, ([] : List Int), [255]]) fun q =>
          (caseP q
          (fun r'16 => (kn r'16))
          (fun q => (letP q fun r'17 =>
            (kn true)))))))))
      (kn false)))
    (kn false)))
  (kn false))))))))))))
noncomputable def f3 (l : List (List Int)) (other : List Int) : Option (Bool) := f3_s none some l other
theorem f3_P (K : Bool → Prop) (l : List (List Int)) (other : List Int) : optK (f3 l other) K → f3_s False K l other := fun h => Eq.mp (by simp only [f3, f3_s, optK_br, optK_gd, optK_on, optK_let, optK_case, optK_yes, optK_no]) h
noncomputable def f3_mt : MT := (.two .leaf (.two .leaf (.two (.two .leaf (.one f3_0_m)) (.two .leaf (.two .leaf (.two (.two .leaf (.one f3_1_m)) (.two .leaf (.two .leaf (.two .leaf (.two (.two .leaf (.one f3_3_m)) .leaf))))))))))
theorem f3_obls : obls (bodyOf Try.f3) f3_mt = [⟨f3_0_S, f3_0_c, f3_0_m0⟩, ⟨f3_1_S, f3_1_c, f3_1_m0⟩, ⟨f3_2_S, f3_2_c, f3_2_m0⟩, ⟨f3_3_S, f3_3_c, f3_3_m0⟩, ⟨f3_4_S, f3_4_c, f3_4_m0⟩, ⟨f3_5_S, f3_5_c, f3_5_m0⟩] := by kernel_rfl
theorem f3_ob : ∀ o ∈ obls (bodyOf Try.f3) f3_mt, Ob.ok f3_cx o := by
  rw [f3_obls]; simp only [List.forall_mem_cons]; exact ⟨f3_0_ok, f3_1_ok, f3_2_ok, f3_3_ok, f3_4_ok, f3_5_ok, by simp⟩
noncomputable def f3_spec : Spec := optSpec [some (.sl (.sl (.int .u8))), some (.sl (.int .u8))] true false (fun xs => match xs with | [a0, a1] => onP none (a0.as (.sl (.sl (.int .u8)))) fun x0 => onP none (a1.as (.sl (.int .u8))) fun x1 => f3 x0 x1 | _ => none) (fun r => ⟨.bool, r⟩)
theorem f3_det : f3_spec.Det := optSpec_det _ _ _ _ _
theorem f3_ok : CallOk Try.prog 3 f3_spec := by
  refine callOk_of_exec rfl mixed_ok (cxW_ok _ _ _) f3_callsOk f3_callsDet Try.func3 (show Try.f3.body = some (bodyOf Try.f3) by kernel_rfl) (by decide) (rt := some .bool) f3_ob ?_
  intro xs K hl hty _ h
  obtain ⟨x0, x1, rfl⟩ := args2 hl hty
  have h1 : optK (f3 x0 x1) (fun r => K ⟨.bool, r⟩) := Eq.mp (by kernel_rfl) h
  exact Eq.mp (by kernel_rfl) (f3_P _ x0 x1 h1)

end Go.Abs
