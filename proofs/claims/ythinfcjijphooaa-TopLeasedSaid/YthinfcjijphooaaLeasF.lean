/- The seat's functions. -/
import Derived.Test.YthinfcjijphooaaLeasRep
namespace Go.Abs
set_option linter.unusedVariables false
set_option linter.unusedSimpArgs false
open Go Go.Proofs

/-! #### copyhold/copyholdtop.TopLeased$1 -/
noncomputable def f17_calls : List (Nat × Spec) := []
noncomputable def f17_hcalls : List (Nat × HSpec) := []
noncomputable def f17_cx : Ctx := cxW 0 (fun f => f17_calls.lookup f) (fun f => f17_hcalls.lookup f)
theorem f17_callsOk : CallsOk Try.prog f17_cx := callsOk_of f17_calls f17_hcalls (fun _ => rfl) (fun _ => rfl) (by simp [f17_calls]) (by simp [f17_hcalls])
theorem f17_callsDet : CallsDet f17_cx := callsDet_of f17_calls f17_hcalls (fun _ => rfl) (fun _ => rfl) (by simp [f17_calls]) (by simp [f17_hcalls])
noncomputable def f17_s {α : Type} (no : α) (kn : Int → α) (n : Int) : α :=
  (brP (decide (n ≥ 128))
  (kn (IntKind.wrap .u64 (18446744073709551615 - (IntKind.wrap .u64 (Int.tmod n 12)))))
  (kn (IntKind.wrap .u64 (Int.tmod n 24))))
noncomputable def f17 (n : Int) : Option (Int) := sealO (f17_s none some n)
theorem f17_eq (n : Int) : f17 n = f17_s none some n := sealO_eq _
theorem f17_P (K : Int → Prop) (n : Int) : optK (f17 n) K → f17_s False K n := fun h => Eq.mp (by simp only [f17_eq, f17_s, optK_br, optK_gd, optK_on, optK_let, optK_case, optK_yes, optK_no]) h
noncomputable def f17_mt : MT := .leaf
theorem f17_obls : obls (bodyOf Try.f17) f17_mt = [] := by kernel_rfl
theorem f17_ob : ∀ o ∈ obls (bodyOf Try.f17) f17_mt, Ob.ok f17_cx o := by
  rw [f17_obls]; simp
noncomputable def f17_spec : Spec := optSpec [some (.int .u8)] true false (fun xs => match xs with | [a0] => onP none (a0.as (.int .u8)) fun x0 => f17 x0 | _ => none) (fun r => ⟨(.int .u64), r⟩)
theorem f17_det : f17_spec.Det := optSpec_det _ _ _ _ _
theorem f17_ok : CallOk Try.prog 17 f17_spec := by
  refine callOk_of_exec rfl mixed_ok (cxW_ok _ _ _) f17_callsOk f17_callsDet Try.func17 (show Try.f17.body = some (bodyOf Try.f17) by kernel_rfl) (by decide) (rt := some (.int .u64)) f17_ob ?_
  intro xs K hl hty _ h
  obtain ⟨x0, rfl⟩ := args1 hl hty
  have h1 : optK (f17 x0) (fun r => K ⟨(.int .u64), r⟩) := Eq.mp (by kernel_rfl) h
  have h2 := f17_P _ x0 h1
  revert h2
  refine (fun {A B : Prop} (e : A = B) (a : A) => Eq.mp e a) ?_
  kernel_rfl

/-! #### copyhold/lease.Owner -/
noncomputable def f25_calls : List (Nat × Spec) := []
noncomputable def f25_hcalls : List (Nat × HSpec) := []
noncomputable def f25_cx : Ctx := cxW 0 (fun f => f25_calls.lookup f) (fun f => f25_hcalls.lookup f)
theorem f25_callsOk : CallsOk Try.prog f25_cx := callsOk_of f25_calls f25_hcalls (fun _ => rfl) (fun _ => rfl) (by simp [f25_calls]) (by simp [f25_hcalls])
theorem f25_callsDet : CallsDet f25_cx := callsDet_of f25_calls f25_hcalls (fun _ => rfl) (fun _ => rfl) (by simp [f25_calls]) (by simp [f25_hcalls])
noncomputable def f25_s {α : Type} (no : α) (kn : Bool → α) (s : List Int) : α :=
  (brP (decide (((List.length s) : Int) ≥ 1))
  (kn (decide (((List.length s) : Int) ≤ 32)))
  (kn false))
noncomputable def f25 (s : List Int) : Option (Bool) := sealO (f25_s none some s)
theorem f25_eq (s : List Int) : f25 s = f25_s none some s := sealO_eq _
theorem f25_P (K : Bool → Prop) (s : List Int) : optK (f25 s) K → f25_s False K s := fun h => Eq.mp (by simp only [f25_eq, f25_s, optK_br, optK_gd, optK_on, optK_let, optK_case, optK_yes, optK_no]) h
noncomputable def f25_mt : MT := .leaf
theorem f25_obls : obls (bodyOf Try.f25) f25_mt = [] := by kernel_rfl
theorem f25_ob : ∀ o ∈ obls (bodyOf Try.f25) f25_mt, Ob.ok f25_cx o := by
  rw [f25_obls]; simp
noncomputable def f25_spec : Spec := optSpec [some .str] true false (fun xs => match xs with | [a0] => onP none (a0.as .str) fun x0 => f25 x0 | _ => none) (fun r => ⟨.bool, r⟩)
theorem f25_det : f25_spec.Det := optSpec_det _ _ _ _ _
theorem f25_ok : CallOk Try.prog 25 f25_spec := by
  refine callOk_of_exec rfl mixed_ok (cxW_ok _ _ _) f25_callsOk f25_callsDet Try.func25 (show Try.f25.body = some (bodyOf Try.f25) by kernel_rfl) (by decide) (rt := some .bool) f25_ob ?_
  intro xs K hl hty _ h
  obtain ⟨x0, rfl⟩ := args1 hl hty
  have h1 : optK (f25 x0) (fun r => K ⟨.bool, r⟩) := Eq.mp (by kernel_rfl) h
  have h2 := f25_P _ x0 h1
  revert h2
  refine (fun {A B : Prop} (e : A = B) (a : A) => Eq.mp e a) ?_
  kernel_rfl

/-! #### copyhold/lease.no -/
noncomputable def f99_calls : List (Nat × Spec) := []
noncomputable def f99_hcalls : List (Nat × HSpec) := []
noncomputable def f99_cx : Ctx := cxW 0 (fun f => f99_calls.lookup f) (fun f => f99_hcalls.lookup f)
theorem f99_callsOk : CallsOk Try.prog f99_cx := callsOk_of f99_calls f99_hcalls (fun _ => rfl) (fun _ => rfl) (by simp [f99_calls]) (by simp [f99_hcalls])
theorem f99_callsDet : CallsDet f99_cx := callsDet_of f99_calls f99_hcalls (fun _ => rfl) (fun _ => rfl) (by simp [f99_calls]) (by simp [f99_hcalls])
noncomputable def f99_s {α : Type} (no : α) (kn : ((List Int × Int × Unit) × (Int × List Int × Int × Int × Unit) × Int × Unit) → α) (e : Int) : α :=
  (kn ((([] : List Int), 0, ()), (0, ([] : List Int), 0, 0, ()), e, ()))
noncomputable def f99 (e : Int) : Option ((List Int × Int × Unit) × (Int × List Int × Int × Int × Unit) × Int × Unit) := sealO (f99_s none some e)
theorem f99_eq (e : Int) : f99 e = f99_s none some e := sealO_eq _
theorem f99_P (K : ((List Int × Int × Unit) × (Int × List Int × Int × Int × Unit) × Int × Unit) → Prop) (e : Int) : optK (f99 e) K → f99_s False K e := fun h => Eq.mp (by simp only [f99_eq, f99_s, optK_br, optK_gd, optK_on, optK_let, optK_case, optK_yes, optK_no]) h
noncomputable def f99_mt : MT := .leaf
theorem f99_obls : obls (bodyOf Try.f99) f99_mt = [] := by kernel_rfl
theorem f99_ob : ∀ o ∈ obls (bodyOf Try.f99) f99_mt, Ob.ok f99_cx o := by
  rw [f99_obls]; simp
noncomputable def f99_spec : Spec := optSpec [some (.int .i64)] true false (fun xs => match xs with | [a0] => onP none (a0.as (.int .i64)) fun x0 => f99 x0 | _ => none) (fun r => ⟨(.tup (.pair (.pair .str (.pair (.int .u64) .unit)) (.pair (.pair (.int .i64) (.pair .str (.pair (.int .u64) (.pair (.int .u64) .unit)))) (.pair (.int .i64) .unit)))), r⟩)
theorem f99_det : f99_spec.Det := optSpec_det _ _ _ _ _
theorem f99_ok : CallOk Try.prog 99 f99_spec := by
  refine callOk_of_exec rfl mixed_ok (cxW_ok _ _ _) f99_callsOk f99_callsDet Try.func99 (show Try.f99.body = some (bodyOf Try.f99) by kernel_rfl) (by decide) (rt := some (.tup (.pair (.pair .str (.pair (.int .u64) .unit)) (.pair (.pair (.int .i64) (.pair .str (.pair (.int .u64) (.pair (.int .u64) .unit)))) (.pair (.int .i64) .unit))))) f99_ob ?_
  intro xs K hl hty _ h
  obtain ⟨x0, rfl⟩ := args1 hl hty
  have h1 : optK (f99 x0) (fun r => K ⟨(.tup (.pair (.pair .str (.pair (.int .u64) .unit)) (.pair (.pair (.int .i64) (.pair .str (.pair (.int .u64) (.pair (.int .u64) .unit)))) (.pair (.int .i64) .unit)))), r⟩) := Eq.mp (by kernel_rfl) h
  have h2 := f99_P _ x0 h1
  revert h2
  refine (fun {A B : Prop} (e : A = B) (a : A) => Eq.mp e a) ?_
  kernel_rfl

/-! #### (copyhold/lease.Lease).Runs -/
noncomputable def f24_calls : List (Nat × Spec) := []
noncomputable def f24_hcalls : List (Nat × HSpec) := []
noncomputable def f24_cx : Ctx := cxW 0 (fun f => f24_calls.lookup f) (fun f => f24_hcalls.lookup f)
theorem f24_callsOk : CallsOk Try.prog f24_cx := callsOk_of f24_calls f24_hcalls (fun _ => rfl) (fun _ => rfl) (by simp [f24_calls]) (by simp [f24_hcalls])
theorem f24_callsDet : CallsDet f24_cx := callsDet_of f24_calls f24_hcalls (fun _ => rfl) (fun _ => rfl) (by simp [f24_calls]) (by simp [f24_hcalls])
noncomputable def f24_s {α : Type} (no : α) (kn : Bool → α) (l : List Int × Int × Unit) (now : Int) : α :=
  (kn (decide (now < l.2.1)))
noncomputable def f24 (l : List Int × Int × Unit) (now : Int) : Option (Bool) := sealO (f24_s none some l now)
theorem f24_eq (l : List Int × Int × Unit) (now : Int) : f24 l now = f24_s none some l now := sealO_eq _
theorem f24_P (K : Bool → Prop) (l : List Int × Int × Unit) (now : Int) : optK (f24 l now) K → f24_s False K l now := fun h => Eq.mp (by simp only [f24_eq, f24_s, optK_br, optK_gd, optK_on, optK_let, optK_case, optK_yes, optK_no]) h
noncomputable def f24_mt : MT := .leaf
theorem f24_obls : obls (bodyOf Try.f24) f24_mt = [] := by kernel_rfl
theorem f24_ob : ∀ o ∈ obls (bodyOf Try.f24) f24_mt, Ob.ok f24_cx o := by
  rw [f24_obls]; simp
noncomputable def f24_spec : Spec := optSpec [some (.pair .str (.pair (.int .u64) .unit)), some (.int .u64)] true false (fun xs => match xs with | [a0, a1] => onP none (a0.as (.pair .str (.pair (.int .u64) .unit))) fun x0 => onP none (a1.as (.int .u64)) fun x1 => f24 x0 x1 | _ => none) (fun r => ⟨.bool, r⟩)
theorem f24_det : f24_spec.Det := optSpec_det _ _ _ _ _
theorem f24_ok : CallOk Try.prog 24 f24_spec := by
  refine callOk_of_exec rfl mixed_ok (cxW_ok _ _ _) f24_callsOk f24_callsDet Try.func24 (show Try.f24.body = some (bodyOf Try.f24) by kernel_rfl) (by decide) (rt := some .bool) f24_ob ?_
  intro xs K hl hty _ h
  obtain ⟨x0, x1, rfl⟩ := args2 hl hty
  have h1 : optK (f24 x0 x1) (fun r => K ⟨.bool, r⟩) := Eq.mp (by kernel_rfl) h
  have h2 := f24_P _ x0 x1 h1
  revert h2
  refine (fun {A B : Prop} (e : A = B) (a : A) => Eq.mp e a) ?_
  kernel_rfl

/-! #### copyhold/lease.Plus -/
noncomputable def f23_calls : List (Nat × Spec) := []
noncomputable def f23_hcalls : List (Nat × HSpec) := []
noncomputable def f23_cx : Ctx := cxW 0 (fun f => f23_calls.lookup f) (fun f => f23_hcalls.lookup f)
theorem f23_callsOk : CallsOk Try.prog f23_cx := callsOk_of f23_calls f23_hcalls (fun _ => rfl) (fun _ => rfl) (by simp [f23_calls]) (by simp [f23_hcalls])
theorem f23_callsDet : CallsDet f23_cx := callsDet_of f23_calls f23_hcalls (fun _ => rfl) (fun _ => rfl) (by simp [f23_calls]) (by simp [f23_hcalls])
noncomputable def f23_s {α : Type} (no : α) (kn : Int → α) (now : Int) (d : Int) : α :=
  (kn (IntKind.wrap .u64 (now + (mnI d (IntKind.wrap .u64 (18446744073709551615 - now))))))
noncomputable def f23 (now : Int) (d : Int) : Option (Int) := sealO (f23_s none some now d)
theorem f23_eq (now : Int) (d : Int) : f23 now d = f23_s none some now d := sealO_eq _
theorem f23_P (K : Int → Prop) (now : Int) (d : Int) : optK (f23 now d) K → f23_s False K now d := fun h => Eq.mp (by simp only [f23_eq, f23_s, optK_br, optK_gd, optK_on, optK_let, optK_case, optK_yes, optK_no]) h
noncomputable def f23_mt : MT := .leaf
theorem f23_obls : obls (bodyOf Try.f23) f23_mt = [] := by kernel_rfl
theorem f23_ob : ∀ o ∈ obls (bodyOf Try.f23) f23_mt, Ob.ok f23_cx o := by
  rw [f23_obls]; simp
noncomputable def f23_spec : Spec := optSpec [some (.int .u64), some (.int .u64)] true false (fun xs => match xs with | [a0, a1] => onP none (a0.as (.int .u64)) fun x0 => onP none (a1.as (.int .u64)) fun x1 => f23 x0 x1 | _ => none) (fun r => ⟨(.int .u64), r⟩)
theorem f23_det : f23_spec.Det := optSpec_det _ _ _ _ _
theorem f23_ok : CallOk Try.prog 23 f23_spec := by
  refine callOk_of_exec rfl mixed_ok (cxW_ok _ _ _) f23_callsOk f23_callsDet Try.func23 (show Try.f23.body = some (bodyOf Try.f23) by kernel_rfl) (by decide) (rt := some (.int .u64)) f23_ob ?_
  intro xs K hl hty _ h
  obtain ⟨x0, x1, rfl⟩ := args2 hl hty
  have h1 : optK (f23 x0 x1) (fun r => K ⟨(.int .u64), r⟩) := Eq.mp (by kernel_rfl) h
  have h2 := f23_P _ x0 x1 h1
  revert h2
  refine (fun {A B : Prop} (e : A = B) (a : A) => Eq.mp e a) ?_
  kernel_rfl

/-! #### copyhold/lease.told -/
noncomputable def f100_calls : List (Nat × Spec) := []
noncomputable def f100_hcalls : List (Nat × HSpec) := []
noncomputable def f100_cx : Ctx := cxW 0 (fun f => f100_calls.lookup f) (fun f => f100_hcalls.lookup f)
theorem f100_callsOk : CallsOk Try.prog f100_cx := callsOk_of f100_calls f100_hcalls (fun _ => rfl) (fun _ => rfl) (by simp [f100_calls]) (by simp [f100_hcalls])
theorem f100_callsDet : CallsDet f100_cx := callsDet_of f100_calls f100_hcalls (fun _ => rfl) (fun _ => rfl) (by simp [f100_calls]) (by simp [f100_hcalls])
noncomputable def f100_s {α : Type} (no : α) (kn : ((List Int × Int × Unit) × (Int × List Int × Int × Int × Unit) × Int × Unit) → α) (l : List Int × Int × Unit) (how : Int) (now : Int) : α :=
  (kn (l, (how, l.1, now, l.2.1, ()), 0, ()))
noncomputable def f100 (l : List Int × Int × Unit) (how : Int) (now : Int) : Option ((List Int × Int × Unit) × (Int × List Int × Int × Int × Unit) × Int × Unit) := sealO (f100_s none some l how now)
theorem f100_eq (l : List Int × Int × Unit) (how : Int) (now : Int) : f100 l how now = f100_s none some l how now := sealO_eq _
theorem f100_P (K : ((List Int × Int × Unit) × (Int × List Int × Int × Int × Unit) × Int × Unit) → Prop) (l : List Int × Int × Unit) (how : Int) (now : Int) : optK (f100 l how now) K → f100_s False K l how now := fun h => Eq.mp (by simp only [f100_eq, f100_s, optK_br, optK_gd, optK_on, optK_let, optK_case, optK_yes, optK_no]) h
noncomputable def f100_mt : MT := .leaf
theorem f100_obls : obls (bodyOf Try.f100) f100_mt = [] := by kernel_rfl
theorem f100_ob : ∀ o ∈ obls (bodyOf Try.f100) f100_mt, Ob.ok f100_cx o := by
  rw [f100_obls]; simp
noncomputable def f100_spec : Spec := optSpec [some (.pair .str (.pair (.int .u64) .unit)), some (.int .i64), some (.int .u64)] true false (fun xs => match xs with | [a0, a1, a2] => onP none (a0.as (.pair .str (.pair (.int .u64) .unit))) fun x0 => onP none (a1.as (.int .i64)) fun x1 => onP none (a2.as (.int .u64)) fun x2 => f100 x0 x1 x2 | _ => none) (fun r => ⟨(.tup (.pair (.pair .str (.pair (.int .u64) .unit)) (.pair (.pair (.int .i64) (.pair .str (.pair (.int .u64) (.pair (.int .u64) .unit)))) (.pair (.int .i64) .unit)))), r⟩)
theorem f100_det : f100_spec.Det := optSpec_det _ _ _ _ _
theorem f100_ok : CallOk Try.prog 100 f100_spec := by
  refine callOk_of_exec rfl mixed_ok (cxW_ok _ _ _) f100_callsOk f100_callsDet Try.func100 (show Try.f100.body = some (bodyOf Try.f100) by kernel_rfl) (by decide) (rt := some (.tup (.pair (.pair .str (.pair (.int .u64) .unit)) (.pair (.pair (.int .i64) (.pair .str (.pair (.int .u64) (.pair (.int .u64) .unit)))) (.pair (.int .i64) .unit))))) f100_ob ?_
  intro xs K hl hty _ h
  obtain ⟨x0, x1, x2, rfl⟩ := args3 hl hty
  have h1 : optK (f100 x0 x1 x2) (fun r => K ⟨(.tup (.pair (.pair .str (.pair (.int .u64) .unit)) (.pair (.pair (.int .i64) (.pair .str (.pair (.int .u64) (.pair (.int .u64) .unit)))) (.pair (.int .i64) .unit)))), r⟩) := Eq.mp (by kernel_rfl) h
  have h2 := f100_P _ x0 x1 x2 h1
  revert h2
  refine (fun {A B : Prop} (e : A = B) (a : A) => Eq.mp e a) ?_
  kernel_rfl

/-! #### copyhold/lease.Take -/
noncomputable def f19_calls : List (Nat × Spec) := [(23, f23_spec), (24, f24_spec), (25, f25_spec), (99, f99_spec), (100, f100_spec)]
noncomputable def f19_hcalls : List (Nat × HSpec) := []
noncomputable def f19_cx : Ctx := cxW 0 (fun f => f19_calls.lookup f) (fun f => f19_hcalls.lookup f)
theorem f19_callsOk : CallsOk Try.prog f19_cx := callsOk_of f19_calls f19_hcalls (fun _ => rfl) (fun _ => rfl) (by simp only [f19_calls, List.forall_mem_cons]; exact ⟨f23_ok, f24_ok, f25_ok, f99_ok, f100_ok, by simp⟩) (by simp [f19_hcalls])
theorem f19_callsDet : CallsDet f19_cx := callsDet_of f19_calls f19_hcalls (fun _ => rfl) (fun _ => rfl) (by simp only [f19_calls, List.forall_mem_cons]; exact ⟨f23_det, f24_det, f25_det, f99_det, f100_det, by simp⟩) (by simp [f19_hcalls])
noncomputable def f19_s {α : Type} (no : α) (kn : ((List Int × Int × Unit) × (Int × List Int × Int × Int × Unit) × Int × Unit) → α) (old : List Int × Int × Unit) (had : Bool) (now : Int) (owner : List Int) (d : Int) : α :=
  (onP no (f25 owner) fun r' =>
  (brP (!(!r'))
  (brP (d == 0)
    (onP no (f99 1) fun r'1 =>
      (kn (r'1.1, r'1.2.1, r'1.2.2.1, ())))
    (brP had
      (onP no (f24 old now) fun r'2 =>
        (brP r'2
        (onP no (f99 22) fun r'3 =>
          (kn (r'3.1, r'3.2.1, r'3.2.2.1, ())))
        (onP no (f23 now d) fun r'4 =>
          (onP no (f100 (owner, r'4, ()) 1 now) fun r'5 =>
          (kn (r'5.1, r'5.2.1, r'5.2.2.1, ()))))))
      (onP no (f23 now d) fun r'6 =>
        (onP no (f100 (owner, r'6, ()) 1 now) fun r'7 =>
        (kn (r'7.1, r'7.2.1, r'7.2.2.1, ()))))))
  (onP no (f99 1) fun r'8 =>
    (kn (r'8.1, r'8.2.1, r'8.2.2.1, ())))))
noncomputable def f19 (old : List Int × Int × Unit) (had : Bool) (now : Int) (owner : List Int) (d : Int) : Option ((List Int × Int × Unit) × (Int × List Int × Int × Int × Unit) × Int × Unit) := sealO (f19_s none some old had now owner d)
theorem f19_eq (old : List Int × Int × Unit) (had : Bool) (now : Int) (owner : List Int) (d : Int) : f19 old had now owner d = f19_s none some old had now owner d := sealO_eq _
theorem f19_P (K : ((List Int × Int × Unit) × (Int × List Int × Int × Int × Unit) × Int × Unit) → Prop) (old : List Int × Int × Unit) (had : Bool) (now : Int) (owner : List Int) (d : Int) : optK (f19 old had now owner d) K → f19_s False K old had now owner d := fun h => Eq.mp (by simp only [f19_eq, f19_s, optK_br, optK_gd, optK_on, optK_let, optK_case, optK_yes, optK_no]) h
noncomputable def f19_mt : MT := .leaf
theorem f19_obls : obls (bodyOf Try.f19) f19_mt = [] := by kernel_rfl
theorem f19_ob : ∀ o ∈ obls (bodyOf Try.f19) f19_mt, Ob.ok f19_cx o := by
  rw [f19_obls]; simp
noncomputable def f19_spec : Spec := optSpec [some (.pair .str (.pair (.int .u64) .unit)), some .bool, some (.int .u64), some .str, some (.int .u64)] true false (fun xs => match xs with | [a0, a1, a2, a3, a4] => onP none (a0.as (.pair .str (.pair (.int .u64) .unit))) fun x0 => onP none (a1.as .bool) fun x1 => onP none (a2.as (.int .u64)) fun x2 => onP none (a3.as .str) fun x3 => onP none (a4.as (.int .u64)) fun x4 => f19 x0 x1 x2 x3 x4 | _ => none) (fun r => ⟨(.tup (.pair (.pair .str (.pair (.int .u64) .unit)) (.pair (.pair (.int .i64) (.pair .str (.pair (.int .u64) (.pair (.int .u64) .unit)))) (.pair (.int .i64) .unit)))), r⟩)
theorem f19_det : f19_spec.Det := optSpec_det _ _ _ _ _
theorem f19_ok : CallOk Try.prog 19 f19_spec := by
  refine callOk_of_exec rfl mixed_ok (cxW_ok _ _ _) f19_callsOk f19_callsDet Try.func19 (show Try.f19.body = some (bodyOf Try.f19) by kernel_rfl) (by decide) (rt := some (.tup (.pair (.pair .str (.pair (.int .u64) .unit)) (.pair (.pair (.int .i64) (.pair .str (.pair (.int .u64) (.pair (.int .u64) .unit)))) (.pair (.int .i64) .unit))))) f19_ob ?_
  intro xs K hl hty _ h
  obtain ⟨x0, x1, x2, x3, x4, rfl⟩ := args5 hl hty
  have h1 : optK (f19 x0 x1 x2 x3 x4) (fun r => K ⟨(.tup (.pair (.pair .str (.pair (.int .u64) .unit)) (.pair (.pair (.int .i64) (.pair .str (.pair (.int .u64) (.pair (.int .u64) .unit)))) (.pair (.int .i64) .unit)))), r⟩) := Eq.mp (by kernel_rfl) h
  have h2 := f19_P _ x0 x1 x2 x3 x4 h1
  revert h2
  refine (fun {A B : Prop} (e : A = B) (a : A) => Eq.mp e a) ?_
  kernel_rfl

/-! #### copyhold/copyholdtop.TopLeased$2 -/
noncomputable def f18_calls : List (Nat × Spec) := []
noncomputable def f18_hcalls : List (Nat × HSpec) := []
noncomputable def f18_cx : Ctx := cxW 0 (fun f => f18_calls.lookup f) (fun f => f18_hcalls.lookup f)
theorem f18_callsOk : CallsOk Try.prog f18_cx := callsOk_of f18_calls f18_hcalls (fun _ => rfl) (fun _ => rfl) (by simp [f18_calls]) (by simp [f18_hcalls])
theorem f18_callsDet : CallsDet f18_cx := callsDet_of f18_calls f18_hcalls (fun _ => rfl) (fun _ => rfl) (by simp [f18_calls]) (by simp [f18_hcalls])
noncomputable def f18_s {α : Type} (no : α) (kn : Int → α) (now : Int) (d : Int) : α :=
  (brP (decide ((IntKind.wrap .u64 (now + d)) < now))
  (kn 18446744073709551615)
  (kn (IntKind.wrap .u64 (now + d))))
noncomputable def f18 (now : Int) (d : Int) : Option (Int) := sealO (f18_s none some now d)
theorem f18_eq (now : Int) (d : Int) : f18 now d = f18_s none some now d := sealO_eq _
theorem f18_P (K : Int → Prop) (now : Int) (d : Int) : optK (f18 now d) K → f18_s False K now d := fun h => Eq.mp (by simp only [f18_eq, f18_s, optK_br, optK_gd, optK_on, optK_let, optK_case, optK_yes, optK_no]) h
noncomputable def f18_mt : MT := .leaf
theorem f18_obls : obls (bodyOf Try.f18) f18_mt = [] := by kernel_rfl
theorem f18_ob : ∀ o ∈ obls (bodyOf Try.f18) f18_mt, Ob.ok f18_cx o := by
  rw [f18_obls]; simp
noncomputable def f18_spec : Spec := optSpec [some (.int .u64), some (.int .u64)] true false (fun xs => match xs with | [a0, a1] => onP none (a0.as (.int .u64)) fun x0 => onP none (a1.as (.int .u64)) fun x1 => f18 x0 x1 | _ => none) (fun r => ⟨(.int .u64), r⟩)
theorem f18_det : f18_spec.Det := optSpec_det _ _ _ _ _
theorem f18_ok : CallOk Try.prog 18 f18_spec := by
  refine callOk_of_exec rfl mixed_ok (cxW_ok _ _ _) f18_callsOk f18_callsDet Try.func18 (show Try.f18.body = some (bodyOf Try.f18) by kernel_rfl) (by decide) (rt := some (.int .u64)) f18_ob ?_
  intro xs K hl hty _ h
  obtain ⟨x0, x1, rfl⟩ := args2 hl hty
  have h1 : optK (f18 x0 x1) (fun r => K ⟨(.int .u64), r⟩) := Eq.mp (by kernel_rfl) h
  have h2 := f18_P _ x0 x1 h1
  revert h2
  refine (fun {A B : Prop} (e : A = B) (a : A) => Eq.mp e a) ?_
  kernel_rfl

/-! #### (copyhold/lease.Lease).own -/
noncomputable def f101_calls : List (Nat × Spec) := [(24, f24_spec), (25, f25_spec)]
noncomputable def f101_hcalls : List (Nat × HSpec) := []
noncomputable def f101_cx : Ctx := cxW 0 (fun f => f101_calls.lookup f) (fun f => f101_hcalls.lookup f)
theorem f101_callsOk : CallsOk Try.prog f101_cx := callsOk_of f101_calls f101_hcalls (fun _ => rfl) (fun _ => rfl) (by simp only [f101_calls, List.forall_mem_cons]; exact ⟨f24_ok, f25_ok, by simp⟩) (by simp [f101_hcalls])
theorem f101_callsDet : CallsDet f101_cx := callsDet_of f101_calls f101_hcalls (fun _ => rfl) (fun _ => rfl) (by simp only [f101_calls, List.forall_mem_cons]; exact ⟨f24_det, f25_det, by simp⟩) (by simp [f101_hcalls])
noncomputable def f101_s {α : Type} (no : α) (kn : Int → α) (l : List Int × Int × Unit) (had : Bool) (now : Int) (owner : List Int) (right : Bool) : α :=
  (onP no (f25 owner) fun r' =>
  (brP (!(!r'))
  (brP (!right)
    (kn 1)
    (brP (!(!had))
      (onP no (f24 l now) fun r'1 =>
        (brP (!r'1)
        (kn 23)
        (brP (!(l.1 == owner))
          (kn 24)
          (kn 0))))
      (kn 23)))
  (kn 1)))
noncomputable def f101 (l : List Int × Int × Unit) (had : Bool) (now : Int) (owner : List Int) (right : Bool) : Option (Int) := sealO (f101_s none some l had now owner right)
theorem f101_eq (l : List Int × Int × Unit) (had : Bool) (now : Int) (owner : List Int) (right : Bool) : f101 l had now owner right = f101_s none some l had now owner right := sealO_eq _
theorem f101_P (K : Int → Prop) (l : List Int × Int × Unit) (had : Bool) (now : Int) (owner : List Int) (right : Bool) : optK (f101 l had now owner right) K → f101_s False K l had now owner right := fun h => Eq.mp (by simp only [f101_eq, f101_s, optK_br, optK_gd, optK_on, optK_let, optK_case, optK_yes, optK_no]) h
noncomputable def f101_mt : MT := .leaf
theorem f101_obls : obls (bodyOf Try.f101) f101_mt = [] := by kernel_rfl
theorem f101_ob : ∀ o ∈ obls (bodyOf Try.f101) f101_mt, Ob.ok f101_cx o := by
  rw [f101_obls]; simp
noncomputable def f101_spec : Spec := optSpec [some (.pair .str (.pair (.int .u64) .unit)), some .bool, some (.int .u64), some .str, some .bool] true false (fun xs => match xs with | [a0, a1, a2, a3, a4] => onP none (a0.as (.pair .str (.pair (.int .u64) .unit))) fun x0 => onP none (a1.as .bool) fun x1 => onP none (a2.as (.int .u64)) fun x2 => onP none (a3.as .str) fun x3 => onP none (a4.as .bool) fun x4 => f101 x0 x1 x2 x3 x4 | _ => none) (fun r => ⟨(.int .i64), r⟩)
theorem f101_det : f101_spec.Det := optSpec_det _ _ _ _ _
theorem f101_ok : CallOk Try.prog 101 f101_spec := by
  refine callOk_of_exec rfl mixed_ok (cxW_ok _ _ _) f101_callsOk f101_callsDet Try.func101 (show Try.f101.body = some (bodyOf Try.f101) by kernel_rfl) (by decide) (rt := some (.int .i64)) f101_ob ?_
  intro xs K hl hty _ h
  obtain ⟨x0, x1, x2, x3, x4, rfl⟩ := args5 hl hty
  have h1 : optK (f101 x0 x1 x2 x3 x4) (fun r => K ⟨(.int .i64), r⟩) := Eq.mp (by kernel_rfl) h
  have h2 := f101_P _ x0 x1 x2 x3 x4 h1
  revert h2
  refine (fun {A B : Prop} (e : A = B) (a : A) => Eq.mp e a) ?_
  kernel_rfl

/-! #### copyhold/lease.Renew -/
noncomputable def f20_calls : List (Nat × Spec) := [(23, f23_spec), (99, f99_spec), (100, f100_spec), (101, f101_spec)]
noncomputable def f20_hcalls : List (Nat × HSpec) := []
noncomputable def f20_cx : Ctx := cxW 0 (fun f => f20_calls.lookup f) (fun f => f20_hcalls.lookup f)
theorem f20_callsOk : CallsOk Try.prog f20_cx := callsOk_of f20_calls f20_hcalls (fun _ => rfl) (fun _ => rfl) (by simp only [f20_calls, List.forall_mem_cons]; exact ⟨f23_ok, f99_ok, f100_ok, f101_ok, by simp⟩) (by simp [f20_hcalls])
theorem f20_callsDet : CallsDet f20_cx := callsDet_of f20_calls f20_hcalls (fun _ => rfl) (fun _ => rfl) (by simp only [f20_calls, List.forall_mem_cons]; exact ⟨f23_det, f99_det, f100_det, f101_det, by simp⟩) (by simp [f20_hcalls])
noncomputable def f20_s {α : Type} (no : α) (kn : ((List Int × Int × Unit) × (Int × List Int × Int × Int × Unit) × Int × Unit) → α) (old : List Int × Int × Unit) (had : Bool) (now : Int) (owner : List Int) (d : Int) : α :=
  (onP no (f101 old had now owner (decide (d > 0))) fun r' =>
  (brP (r' != 0)
  (onP no (f99 r') fun r'1 =>
    (kn (r'1.1, r'1.2.1, r'1.2.2.1, ())))
  (onP no (f23 now d) fun r'2 =>
    (onP no (f100 (owner, r'2, ()) 2 now) fun r'3 =>
    (kn (r'3.1, r'3.2.1, r'3.2.2.1, ()))))))
noncomputable def f20 (old : List Int × Int × Unit) (had : Bool) (now : Int) (owner : List Int) (d : Int) : Option ((List Int × Int × Unit) × (Int × List Int × Int × Int × Unit) × Int × Unit) := sealO (f20_s none some old had now owner d)
theorem f20_eq (old : List Int × Int × Unit) (had : Bool) (now : Int) (owner : List Int) (d : Int) : f20 old had now owner d = f20_s none some old had now owner d := sealO_eq _
theorem f20_P (K : ((List Int × Int × Unit) × (Int × List Int × Int × Int × Unit) × Int × Unit) → Prop) (old : List Int × Int × Unit) (had : Bool) (now : Int) (owner : List Int) (d : Int) : optK (f20 old had now owner d) K → f20_s False K old had now owner d := fun h => Eq.mp (by simp only [f20_eq, f20_s, optK_br, optK_gd, optK_on, optK_let, optK_case, optK_yes, optK_no]) h
noncomputable def f20_mt : MT := .leaf
theorem f20_obls : obls (bodyOf Try.f20) f20_mt = [] := by kernel_rfl
theorem f20_ob : ∀ o ∈ obls (bodyOf Try.f20) f20_mt, Ob.ok f20_cx o := by
  rw [f20_obls]; simp
noncomputable def f20_spec : Spec := optSpec [some (.pair .str (.pair (.int .u64) .unit)), some .bool, some (.int .u64), some .str, some (.int .u64)] true false (fun xs => match xs with | [a0, a1, a2, a3, a4] => onP none (a0.as (.pair .str (.pair (.int .u64) .unit))) fun x0 => onP none (a1.as .bool) fun x1 => onP none (a2.as (.int .u64)) fun x2 => onP none (a3.as .str) fun x3 => onP none (a4.as (.int .u64)) fun x4 => f20 x0 x1 x2 x3 x4 | _ => none) (fun r => ⟨(.tup (.pair (.pair .str (.pair (.int .u64) .unit)) (.pair (.pair (.int .i64) (.pair .str (.pair (.int .u64) (.pair (.int .u64) .unit)))) (.pair (.int .i64) .unit)))), r⟩)
theorem f20_det : f20_spec.Det := optSpec_det _ _ _ _ _
theorem f20_ok : CallOk Try.prog 20 f20_spec := by
  refine callOk_of_exec rfl mixed_ok (cxW_ok _ _ _) f20_callsOk f20_callsDet Try.func20 (show Try.f20.body = some (bodyOf Try.f20) by kernel_rfl) (by decide) (rt := some (.tup (.pair (.pair .str (.pair (.int .u64) .unit)) (.pair (.pair (.int .i64) (.pair .str (.pair (.int .u64) (.pair (.int .u64) .unit)))) (.pair (.int .i64) .unit))))) f20_ob ?_
  intro xs K hl hty _ h
  obtain ⟨x0, x1, x2, x3, x4, rfl⟩ := args5 hl hty
  have h1 : optK (f20 x0 x1 x2 x3 x4) (fun r => K ⟨(.tup (.pair (.pair .str (.pair (.int .u64) .unit)) (.pair (.pair (.int .i64) (.pair .str (.pair (.int .u64) (.pair (.int .u64) .unit)))) (.pair (.int .i64) .unit)))), r⟩) := Eq.mp (by kernel_rfl) h
  have h2 := f20_P _ x0 x1 x2 x3 x4 h1
  revert h2
  refine (fun {A B : Prop} (e : A = B) (a : A) => Eq.mp e a) ?_
  kernel_rfl

/-! #### copyhold/lease.Release -/
noncomputable def f21_calls : List (Nat × Spec) := [(99, f99_spec), (101, f101_spec)]
noncomputable def f21_hcalls : List (Nat × HSpec) := []
noncomputable def f21_cx : Ctx := cxW 0 (fun f => f21_calls.lookup f) (fun f => f21_hcalls.lookup f)
theorem f21_callsOk : CallsOk Try.prog f21_cx := callsOk_of f21_calls f21_hcalls (fun _ => rfl) (fun _ => rfl) (by simp only [f21_calls, List.forall_mem_cons]; exact ⟨f99_ok, f101_ok, by simp⟩) (by simp [f21_hcalls])
theorem f21_callsDet : CallsDet f21_cx := callsDet_of f21_calls f21_hcalls (fun _ => rfl) (fun _ => rfl) (by simp only [f21_calls, List.forall_mem_cons]; exact ⟨f99_det, f101_det, by simp⟩) (by simp [f21_hcalls])
noncomputable def f21_s {α : Type} (no : α) (kn : ((List Int × Int × Unit) × (Int × List Int × Int × Int × Unit) × Int × Unit) → α) (old : List Int × Int × Unit) (had : Bool) (now : Int) (owner : List Int) : α :=
  (onP no (f101 old had now owner true) fun r' =>
  (brP (r' != 0)
  (onP no (f99 r') fun r'1 =>
    (kn (r'1.1, r'1.2.1, r'1.2.2.1, ())))
  (kn ((([] : List Int), 0, ()), (3, owner, now, now, ()), 0, ()))))
noncomputable def f21 (old : List Int × Int × Unit) (had : Bool) (now : Int) (owner : List Int) : Option ((List Int × Int × Unit) × (Int × List Int × Int × Int × Unit) × Int × Unit) := sealO (f21_s none some old had now owner)
theorem f21_eq (old : List Int × Int × Unit) (had : Bool) (now : Int) (owner : List Int) : f21 old had now owner = f21_s none some old had now owner := sealO_eq _
theorem f21_P (K : ((List Int × Int × Unit) × (Int × List Int × Int × Int × Unit) × Int × Unit) → Prop) (old : List Int × Int × Unit) (had : Bool) (now : Int) (owner : List Int) : optK (f21 old had now owner) K → f21_s False K old had now owner := fun h => Eq.mp (by simp only [f21_eq, f21_s, optK_br, optK_gd, optK_on, optK_let, optK_case, optK_yes, optK_no]) h
noncomputable def f21_mt : MT := .leaf
theorem f21_obls : obls (bodyOf Try.f21) f21_mt = [] := by kernel_rfl
theorem f21_ob : ∀ o ∈ obls (bodyOf Try.f21) f21_mt, Ob.ok f21_cx o := by
  rw [f21_obls]; simp
noncomputable def f21_spec : Spec := optSpec [some (.pair .str (.pair (.int .u64) .unit)), some .bool, some (.int .u64), some .str] true false (fun xs => match xs with | [a0, a1, a2, a3] => onP none (a0.as (.pair .str (.pair (.int .u64) .unit))) fun x0 => onP none (a1.as .bool) fun x1 => onP none (a2.as (.int .u64)) fun x2 => onP none (a3.as .str) fun x3 => f21 x0 x1 x2 x3 | _ => none) (fun r => ⟨(.tup (.pair (.pair .str (.pair (.int .u64) .unit)) (.pair (.pair (.int .i64) (.pair .str (.pair (.int .u64) (.pair (.int .u64) .unit)))) (.pair (.int .i64) .unit)))), r⟩)
theorem f21_det : f21_spec.Det := optSpec_det _ _ _ _ _
theorem f21_ok : CallOk Try.prog 21 f21_spec := by
  refine callOk_of_exec rfl mixed_ok (cxW_ok _ _ _) f21_callsOk f21_callsDet Try.func21 (show Try.f21.body = some (bodyOf Try.f21) by kernel_rfl) (by decide) (rt := some (.tup (.pair (.pair .str (.pair (.int .u64) .unit)) (.pair (.pair (.int .i64) (.pair .str (.pair (.int .u64) (.pair (.int .u64) .unit)))) (.pair (.int .i64) .unit))))) f21_ob ?_
  intro xs K hl hty _ h
  obtain ⟨x0, x1, x2, x3, rfl⟩ := args4 hl hty
  have h1 : optK (f21 x0 x1 x2 x3) (fun r => K ⟨(.tup (.pair (.pair .str (.pair (.int .u64) .unit)) (.pair (.pair (.int .i64) (.pair .str (.pair (.int .u64) (.pair (.int .u64) .unit)))) (.pair (.int .i64) .unit)))), r⟩) := Eq.mp (by kernel_rfl) h
  have h2 := f21_P _ x0 x1 x2 x3 h1
  revert h2
  refine (fun {A B : Prop} (e : A = B) (a : A) => Eq.mp e a) ?_
  kernel_rfl

/-! #### copyhold/lease.Move -/
noncomputable def f22_calls : List (Nat × Spec) := [(25, f25_spec), (99, f99_spec), (100, f100_spec), (101, f101_spec)]
noncomputable def f22_hcalls : List (Nat × HSpec) := []
noncomputable def f22_cx : Ctx := cxW 0 (fun f => f22_calls.lookup f) (fun f => f22_hcalls.lookup f)
theorem f22_callsOk : CallsOk Try.prog f22_cx := callsOk_of f22_calls f22_hcalls (fun _ => rfl) (fun _ => rfl) (by simp only [f22_calls, List.forall_mem_cons]; exact ⟨f25_ok, f99_ok, f100_ok, f101_ok, by simp⟩) (by simp [f22_hcalls])
theorem f22_callsDet : CallsDet f22_cx := callsDet_of f22_calls f22_hcalls (fun _ => rfl) (fun _ => rfl) (by simp only [f22_calls, List.forall_mem_cons]; exact ⟨f25_det, f99_det, f100_det, f101_det, by simp⟩) (by simp [f22_hcalls])
noncomputable def f22_s {α : Type} (no : α) (kn : ((List Int × Int × Unit) × (Int × List Int × Int × Int × Unit) × Int × Unit) → α) (old : List Int × Int × Unit) (had : Bool) (now : Int) (owner : List Int) (to' : List Int) : α :=
  (onP no (f25 to') fun r' =>
  (onP no (f101 old had now owner r') fun r'1 =>
  (brP (r'1 != 0)
  (onP no (f99 r'1) fun r'2 =>
    (kn (r'2.1, r'2.2.1, r'2.2.2.1, ())))
  (onP no (f100 (to', old.2.1, ()) 4 now) fun r'3 =>
    (kn (r'3.1, r'3.2.1, r'3.2.2.1, ()))))))
noncomputable def f22 (old : List Int × Int × Unit) (had : Bool) (now : Int) (owner : List Int) (to' : List Int) : Option ((List Int × Int × Unit) × (Int × List Int × Int × Int × Unit) × Int × Unit) := sealO (f22_s none some old had now owner to')
theorem f22_eq (old : List Int × Int × Unit) (had : Bool) (now : Int) (owner : List Int) (to' : List Int) : f22 old had now owner to' = f22_s none some old had now owner to' := sealO_eq _
theorem f22_P (K : ((List Int × Int × Unit) × (Int × List Int × Int × Int × Unit) × Int × Unit) → Prop) (old : List Int × Int × Unit) (had : Bool) (now : Int) (owner : List Int) (to' : List Int) : optK (f22 old had now owner to') K → f22_s False K old had now owner to' := fun h => Eq.mp (by simp only [f22_eq, f22_s, optK_br, optK_gd, optK_on, optK_let, optK_case, optK_yes, optK_no]) h
noncomputable def f22_mt : MT := .leaf
theorem f22_obls : obls (bodyOf Try.f22) f22_mt = [] := by kernel_rfl
theorem f22_ob : ∀ o ∈ obls (bodyOf Try.f22) f22_mt, Ob.ok f22_cx o := by
  rw [f22_obls]; simp
noncomputable def f22_spec : Spec := optSpec [some (.pair .str (.pair (.int .u64) .unit)), some .bool, some (.int .u64), some .str, some .str] true false (fun xs => match xs with | [a0, a1, a2, a3, a4] => onP none (a0.as (.pair .str (.pair (.int .u64) .unit))) fun x0 => onP none (a1.as .bool) fun x1 => onP none (a2.as (.int .u64)) fun x2 => onP none (a3.as .str) fun x3 => onP none (a4.as .str) fun x4 => f22 x0 x1 x2 x3 x4 | _ => none) (fun r => ⟨(.tup (.pair (.pair .str (.pair (.int .u64) .unit)) (.pair (.pair (.int .i64) (.pair .str (.pair (.int .u64) (.pair (.int .u64) .unit)))) (.pair (.int .i64) .unit)))), r⟩)
theorem f22_det : f22_spec.Det := optSpec_det _ _ _ _ _
theorem f22_ok : CallOk Try.prog 22 f22_spec := by
  refine callOk_of_exec rfl mixed_ok (cxW_ok _ _ _) f22_callsOk f22_callsDet Try.func22 (show Try.f22.body = some (bodyOf Try.f22) by kernel_rfl) (by decide) (rt := some (.tup (.pair (.pair .str (.pair (.int .u64) .unit)) (.pair (.pair (.int .i64) (.pair .str (.pair (.int .u64) (.pair (.int .u64) .unit)))) (.pair (.int .i64) .unit))))) f22_ob ?_
  intro xs K hl hty _ h
  obtain ⟨x0, x1, x2, x3, x4, rfl⟩ := args5 hl hty
  have h1 : optK (f22 x0 x1 x2 x3 x4) (fun r => K ⟨(.tup (.pair (.pair .str (.pair (.int .u64) .unit)) (.pair (.pair (.int .i64) (.pair .str (.pair (.int .u64) (.pair (.int .u64) .unit)))) (.pair (.int .i64) .unit)))), r⟩) := Eq.mp (by kernel_rfl) h
  have h2 := f22_P _ x0 x1 x2 x3 x4 h1
  revert h2
  refine (fun {A B : Prop} (e : A = B) (a : A) => Eq.mp e a) ?_
  kernel_rfl

/-! #### copyhold/copyholdtop.TopLeased -/
noncomputable def f4_calls : List (Nat × Spec) := [(16, f16_spec), (17, f17_spec), (18, f18_spec), (19, f19_spec), (20, f20_spec), (21, f21_spec), (22, f22_spec), (23, f23_spec), (24, f24_spec), (25, f25_spec)]
noncomputable def f4_hcalls : List (Nat × HSpec) := []
noncomputable def f4_cx : Ctx := cxW 0 (fun f => f4_calls.lookup f) (fun f => f4_hcalls.lookup f)
theorem f4_callsOk : CallsOk Try.prog f4_cx := callsOk_of f4_calls f4_hcalls (fun _ => rfl) (fun _ => rfl) (by simp only [f4_calls, List.forall_mem_cons]; exact ⟨f16_ok, f17_ok, f18_ok, f19_ok, f20_ok, f21_ok, f22_ok, f23_ok, f24_ok, f25_ok, by simp⟩) (by simp [f4_hcalls])
theorem f4_callsDet : CallsDet f4_cx := callsDet_of f4_calls f4_hcalls (fun _ => rfl) (fun _ => rfl) (by simp only [f4_calls, List.forall_mem_cons]; exact ⟨f16_det, f17_det, f18_det, f19_det, f20_det, f21_det, f22_det, f23_det, f24_det, f25_det, by simp⟩) (by simp [f4_hcalls])
noncomputable def f4_1_s {α : Type} (no : α) (k0 : Bool → α) (owner : List Int) : α :=
  (brP (!(owner == ([] : List Int)))
  (k0 (decide (((List.length owner) : Int) ≤ 32)))
  (k0 false))
noncomputable def f4_1 (owner : List Int) : Option (Bool) := sealO (f4_1_s none (fun z => some (z)) owner)
theorem f4_1_eq (owner : List Int) : f4_1 owner = f4_1_s none (fun z => some (z)) owner := sealO_eq _
theorem f4_1_P (K : Bool → Prop) (owner : List Int) : optK (f4_1 owner) K → f4_1_s False (fun z => K (z)) owner := fun h => Eq.mp (by simp only [f4_1_eq, f4_1_s, optK_br, optK_gd, optK_on, optK_let, optK_case, optK_yes, optK_no]) h
def f4_1_sh : SSh := ⟨slots 261 [(3, (.ref .str 0)), (4, (.ptr 1 [])), (5, (.val .bool)), (6, (.val (.fn 17 .unit))), (7, (.val (.fn 18 .unit))), (9, (.ptr 2 [])), (10, (.val (.int .u64))), (11, (.val (.int .u64))), (12, (.val .str)), (13, (.val .str)), (36, (.ref (.arr 4 (.int .u8)) 3)), (37, (.val (.int .i64))), (38, (.val (.int .i64)))], [.row .str false, .box (.val (.pair .str (.pair (.int .u64) .unit))) false, .box (.val (.arr 4 (.int .u8))) false, .row (.arr 4 (.int .u8)) false]⟩
def f4_1_e0 : SSh := ⟨slots 261 [(3, (.ref .str 0)), (4, (.ptr 1 [])), (5, (.val .bool)), (6, (.val (.fn 17 .unit))), (7, (.val (.fn 18 .unit))), (9, (.ptr 2 [])), (10, (.val (.int .u64))), (11, (.val (.int .u64))), (12, (.val .str)), (13, (.val .str)), (14, (.val .bool)), (36, (.ref (.arr 4 (.int .u8)) 3)), (37, (.val (.int .i64))), (38, (.val (.int .i64)))], [.row .str false, .box (.val (.pair .str (.pair (.int .u64) .unit))) false, .box (.val (.arr 4 (.int .u8))) false, .row (.arr 4 (.int .u8)) false]⟩
noncomputable def f4_1_fin (s : f4_1_sh.L) (r : Bool) (K : XK) : Prop := K .norm (f4_1_e0.mk' (((), (), s.1.2.2.1, (), (), (), s.1.2.2.2.2.2.2.1, s.1.2.2.2.2.2.2.2.1, s.1.2.2.2.2.2.2.2.2.1, s.1.2.2.2.2.2.2.2.2.2.1, r, (), s.1.2.2.2.2.2.2.2.2.2.2.2.1, s.1.2.2.2.2.2.2.2.2.2.2.2.2.1, ()), (s.2.1, s.2.2.1, s.2.2.2.1, s.2.2.2.2.1, ())))
noncomputable def f4_1_f (s : f4_1_sh.L) : Option (Bool) := f4_1 s.1.2.2.2.2.2.2.2.2.1
noncomputable def f4_1_S : Summ := ⟨[(3, .keep), (4, .keep), (5, .keep), (6, .keep), (7, .keep), (9, .keep), (10, .keep), (11, .keep), (12, .keep), (13, .keep), (36, .keep), (37, .keep), (38, .keep)], [(3, .keep), (4, .keep), (5, .keep), (6, .keep), (7, .keep), (9, .keep), (10, .keep), (11, .keep), (12, .keep), (13, .keep), (14, .keep), (36, .keep), (37, .keep), (38, .keep)], [(3, .keep), (4, .keep), (5, .keep), (6, .keep), (7, .keep), (36, .keep), (37, .keep), (38, .keep)], [(2, .keep)], runS f4_1_sh f4_1_f f4_1_fin⟩
noncomputable def f4_1_m0 : MT := .leaf
noncomputable def f4_1_m : MT := .sum f4_1_S f4_1_m0
noncomputable def f4_1_c : Code := seqA (seqB (seqB (blockC (seqA (seqB (seqB (blockC (blockC (seqB (seqA (seqB (seqB (seqB (seqB (seqB (seqB (bodyOf Try.f4)))))))))))))))))
theorem f4_1_ok : Ob.ok f4_cx ⟨f4_1_S, f4_1_c, f4_1_m0⟩ := by
  refine part_ok (fun s K h => ?_)
  have h : optK (f4_1 s.1.2.2.2.2.2.2.2.2.1) (fun r => f4_1_fin s r K) := h
  have h2 := f4_1_P _ s.1.2.2.2.2.2.2.2.2.1 h
  revert h2
  refine (fun {A B : Prop} (e : A = B) (a : A) => Eq.mp e a) ?_
  kernel_rfl
noncomputable def f4_2_s {α : Type} (no : α) (k0 : Bool → α) (had2 : Bool) (now1 : Int) (own2 : List Int × Int × Unit) : α :=
  (brP had2
  (k0 (decide (now1 < own2.2.1)))
  (k0 false))
noncomputable def f4_2 (had2 : Bool) (now1 : Int) (own2 : List Int × Int × Unit) : Option (Bool) := sealO (f4_2_s none (fun z => some (z)) had2 now1 own2)
theorem f4_2_eq (had2 : Bool) (now1 : Int) (own2 : List Int × Int × Unit) : f4_2 had2 now1 own2 = f4_2_s none (fun z => some (z)) had2 now1 own2 := sealO_eq _
theorem f4_2_P (K : Bool → Prop) (had2 : Bool) (now1 : Int) (own2 : List Int × Int × Unit) : optK (f4_2 had2 now1 own2) K → f4_2_s False (fun z => K (z)) had2 now1 own2 := fun h => Eq.mp (by simp only [f4_2_eq, f4_2_s, optK_br, optK_gd, optK_on, optK_let, optK_case, optK_yes, optK_no]) h
def f4_2_sh : SSh := ⟨slots 261 [(3, (.ref .str 0)), (4, (.ptr 1 [])), (5, (.val .bool)), (6, (.val (.fn 17 .unit))), (7, (.val (.fn 18 .unit))), (9, (.ptr 2 [])), (10, (.val (.int .u64))), (11, (.val (.int .u64))), (12, (.val .str)), (13, (.val .str)), (14, (.val .bool)), (36, (.ref (.arr 4 (.int .u8)) 3)), (37, (.val (.int .i64))), (38, (.val (.int .i64)))], [.row .str false, .box (.val (.pair .str (.pair (.int .u64) .unit))) false, .box (.val (.arr 4 (.int .u8))) false, .row (.arr 4 (.int .u8)) false]⟩
def f4_2_e0 : SSh := ⟨slots 261 [(3, (.ref .str 0)), (4, (.ptr 1 [])), (5, (.val .bool)), (6, (.val (.fn 17 .unit))), (7, (.val (.fn 18 .unit))), (9, (.ptr 2 [])), (10, (.val (.int .u64))), (11, (.val (.int .u64))), (12, (.val .str)), (13, (.val .str)), (14, (.val .bool)), (15, (.val .bool)), (36, (.ref (.arr 4 (.int .u8)) 3)), (37, (.val (.int .i64))), (38, (.val (.int .i64)))], [.row .str false, .box (.val (.pair .str (.pair (.int .u64) .unit))) false, .box (.val (.arr 4 (.int .u8))) false, .row (.arr 4 (.int .u8)) false]⟩
noncomputable def f4_2_fin (s : f4_2_sh.L) (r : Bool) (K : XK) : Prop := K .norm (f4_2_e0.mk' (((), (), s.1.2.2.1, (), (), (), s.1.2.2.2.2.2.2.1, s.1.2.2.2.2.2.2.2.1, s.1.2.2.2.2.2.2.2.2.1, s.1.2.2.2.2.2.2.2.2.2.1, s.1.2.2.2.2.2.2.2.2.2.2.1, r, (), s.1.2.2.2.2.2.2.2.2.2.2.2.2.1, s.1.2.2.2.2.2.2.2.2.2.2.2.2.2.1, ()), (s.2.1, s.2.2.1, s.2.2.2.1, s.2.2.2.2.1, ())))
noncomputable def f4_2_f (s : f4_2_sh.L) : Option (Bool) := f4_2 s.1.2.2.1 s.1.2.2.2.2.2.2.1 s.2.2.1
noncomputable def f4_2_S : Summ := ⟨[(3, .keep), (4, .keep), (5, .keep), (6, .keep), (7, .keep), (9, .keep), (10, .keep), (11, .keep), (12, .keep), (13, .keep), (14, .keep), (36, .keep), (37, .keep), (38, .keep)], [(3, .keep), (4, .keep), (5, .keep), (6, .keep), (7, .keep), (9, .keep), (10, .keep), (11, .keep), (12, .keep), (13, .keep), (14, .keep), (15, .keep), (36, .keep), (37, .keep), (38, .keep)], [(3, .keep), (4, .keep), (5, .keep), (6, .keep), (7, .keep), (36, .keep), (37, .keep), (38, .keep)], [(2, .keep)], runS f4_2_sh f4_2_f f4_2_fin⟩
noncomputable def f4_2_m0 : MT := .leaf
noncomputable def f4_2_m : MT := .sum f4_2_S f4_2_m0
noncomputable def f4_2_c : Code := seqA (seqB (seqB (seqB (blockC (seqA (seqB (seqB (blockC (blockC (seqB (seqA (seqB (seqB (seqB (seqB (seqB (seqB (bodyOf Try.f4))))))))))))))))))
theorem f4_2_ok : Ob.ok f4_cx ⟨f4_2_S, f4_2_c, f4_2_m0⟩ := by
  refine part_ok (fun s K h => ?_)
  have h : optK (f4_2 s.1.2.2.1 s.1.2.2.2.2.2.2.1 s.2.2.1) (fun r => f4_2_fin s r K) := h
  have h2 := f4_2_P _ s.1.2.2.1 s.1.2.2.2.2.2.2.1 s.2.2.1 h
  revert h2
  refine (fun {A B : Prop} (e : A = B) (a : A) => Eq.mp e a) ?_
  kernel_rfl
noncomputable def f4_4_s {α : Type} (no : α) (k0 : Bool → α) (y15 : Int) : α :=
  (brP (y15 == 0)
  (k0 (y15 == 0))
  (k0 (y15 == 1)))
noncomputable def f4_4 (y15 : Int) : Option (Bool) := sealO (f4_4_s none (fun z => some (z)) y15)
theorem f4_4_eq (y15 : Int) : f4_4 y15 = f4_4_s none (fun z => some (z)) y15 := sealO_eq _
theorem f4_4_P (K : Bool → Prop) (y15 : Int) : optK (f4_4 y15) K → f4_4_s False (fun z => K (z)) y15 := fun h => Eq.mp (by simp only [f4_4_eq, f4_4_s, optK_br, optK_gd, optK_on, optK_let, optK_case, optK_yes, optK_no]) h
def f4_4_sh : SSh := ⟨slots 261 [(3, (.ref .str 0)), (4, (.ptr 1 [])), (5, (.val .bool)), (6, (.val (.fn 17 .unit))), (7, (.val (.fn 18 .unit))), (10, (.val (.int .u64))), (11, (.val (.int .u64))), (12, (.val .str)), (13, (.val .str)), (14, (.val .bool)), (15, (.val .bool)), (16, (.ptr 2 [])), (17, (.ptr 3 [])), (19, (.val (.int .i64))), (20, (.ptr 4 [])), (21, (.ptr 5 [])), (22, (.val .bool)), (36, (.ref (.arr 4 (.int .u8)) 6)), (37, (.val (.int .i64))), (38, (.val (.int .i64))), (80, (.val (.int .u8)))], [.row .str false, .box (.val (.pair .str (.pair (.int .u64) .unit))) false, .box (.val (.pair .str (.pair (.int .u64) .unit))) false, .box (.val (.pair (.int .i64) (.pair .str (.pair (.int .u64) (.pair (.int .u64) .unit))))) false, .box (.val (.pair .str (.pair (.int .u64) .unit))) false, .box (.val (.pair (.int .i64) (.pair .str (.pair (.int .u64) (.pair (.int .u64) .unit))))) false, .row (.arr 4 (.int .u8)) false]⟩
def f4_4_e0 : SSh := ⟨slots 261 [(3, (.ref .str 0)), (4, (.ptr 1 [])), (5, (.val .bool)), (6, (.val (.fn 17 .unit))), (7, (.val (.fn 18 .unit))), (10, (.val (.int .u64))), (11, (.val (.int .u64))), (12, (.val .str)), (13, (.val .str)), (14, (.val .bool)), (15, (.val .bool)), (16, (.ptr 2 [])), (17, (.ptr 3 [])), (19, (.val (.int .i64))), (20, (.ptr 4 [])), (21, (.ptr 5 [])), (22, (.val .bool)), (36, (.ref (.arr 4 (.int .u8)) 6)), (37, (.val (.int .i64))), (38, (.val (.int .i64))), (80, (.val (.int .u8))), (120, (.val .bool))], [.row .str false, .box (.val (.pair .str (.pair (.int .u64) .unit))) false, .box (.val (.pair .str (.pair (.int .u64) .unit))) false, .box (.val (.pair (.int .i64) (.pair .str (.pair (.int .u64) (.pair (.int .u64) .unit))))) false, .box (.val (.pair .str (.pair (.int .u64) .unit))) false, .box (.val (.pair (.int .i64) (.pair .str (.pair (.int .u64) (.pair (.int .u64) .unit))))) false, .row (.arr 4 (.int .u8)) false]⟩
noncomputable def f4_4_fin (s : f4_4_sh.L) (r : Bool) (K : XK) : Prop := K .norm (f4_4_e0.mk' (((), (), s.1.2.2.1, (), (), s.1.2.2.2.2.2.1, s.1.2.2.2.2.2.2.1, s.1.2.2.2.2.2.2.2.1, s.1.2.2.2.2.2.2.2.2.1, s.1.2.2.2.2.2.2.2.2.2.1, s.1.2.2.2.2.2.2.2.2.2.2.1, (), (), s.1.2.2.2.2.2.2.2.2.2.2.2.2.2.1, (), (), s.1.2.2.2.2.2.2.2.2.2.2.2.2.2.2.2.2.1, (), s.1.2.2.2.2.2.2.2.2.2.2.2.2.2.2.2.2.2.2.1, s.1.2.2.2.2.2.2.2.2.2.2.2.2.2.2.2.2.2.2.2.1, s.1.2.2.2.2.2.2.2.2.2.2.2.2.2.2.2.2.2.2.2.2.1, r, ()), (s.2.1, s.2.2.1, s.2.2.2.1, s.2.2.2.2.1, s.2.2.2.2.2.1, s.2.2.2.2.2.2.1, s.2.2.2.2.2.2.2.1, ())))
noncomputable def f4_4_f (s : f4_4_sh.L) : Option (Bool) := f4_4 s.1.2.2.2.2.2.2.2.2.2.2.2.2.2.2.2.2.2.2.2.2.1
noncomputable def f4_4_S : Summ := ⟨[(3, .keep), (4, .keep), (5, .keep), (6, .keep), (7, .keep), (10, .keep), (11, .keep), (12, .keep), (13, .keep), (14, .keep), (15, .keep), (16, .keep), (17, .keep), (19, .keep), (20, .keep), (21, .keep), (22, .keep), (36, .keep), (37, .keep), (38, .keep), (80, .keep)], [(3, .keep), (4, .keep), (5, .keep), (6, .keep), (7, .keep), (10, .keep), (11, .keep), (12, .keep), (13, .keep), (14, .keep), (15, .keep), (16, .keep), (17, .keep), (19, .keep), (20, .keep), (21, .keep), (22, .keep), (36, .keep), (37, .keep), (38, .keep), (80, .keep), (120, .keep)], [(3, .keep), (4, .keep), (5, .keep), (6, .keep), (7, .keep), (10, .keep), (11, .keep), (12, .keep), (14, .keep), (16, .keep), (17, .keep), (18, .keep), (19, .keep), (20, .keep), (21, .keep), (22, .keep), (36, .keep), (37, .keep), (38, .keep)], [(2, .keep)], runS f4_4_sh f4_4_f f4_4_fin⟩
noncomputable def f4_4_m0 : MT := .leaf
noncomputable def f4_4_m : MT := .sum f4_4_S f4_4_m0
noncomputable def f4_4_c : Code := seqA (blockC (seqB (seqA (seqB (seqB (seqB (seqB (seqB (seqB (seqB (seqB (seqB (blockC (seqA (seqB (seqB (blockC (blockC (seqB (seqA (seqB (seqB (seqB (seqB (seqB (seqB (bodyOf Try.f4)))))))))))))))))))))))))))
theorem f4_4_ok : Ob.ok f4_cx ⟨f4_4_S, f4_4_c, f4_4_m0⟩ := by
  refine part_ok (fun s K h => ?_)
  have h : optK (f4_4 s.1.2.2.2.2.2.2.2.2.2.2.2.2.2.2.2.2.2.2.2.2.1) (fun r => f4_4_fin s r K) := h
  have h2 := f4_4_P _ s.1.2.2.2.2.2.2.2.2.2.2.2.2.2.2.2.2.2.2.2.2.1 h
  revert h2
  refine (fun {A B : Prop} (e : A = B) (a : A) => Eq.mp e a) ?_
  kernel_rfl
noncomputable def f4_3_s {α : Type} (no : α) (k0 : (Int × Int × Bool × (List Int × Int × Unit) × (Int × List Int × Int × Int × Unit) × (List Int × Int × Unit) × (Int × List Int × Int × Int × Unit)) → α) (had3 : Bool) (now2 : Int) (d2 : Int) (owner2 : List Int) (to'2 : List Int) (right1 : Bool) (runs : Bool) (due : Int) (keeps : Bool) (y11 : Int) (own3 : List Int × Int × Unit) (next' : List Int × Int × Unit) (event : Int × List Int × Int × Int × Unit) : α :=
  (onP no (f4_4 y11) fun r'6 =>
  (brP r'6
  (brP (!(!right1))
    (brP (decide (d2 < 1))
      (onP no (f19 own3 had3 now2 owner2 d2) fun r'7 =>
        (k0 (r'7.2.2.1, 1, keeps, r'7.1, r'7.2.1, next', event)))
      (brP runs
        (onP no (f19 own3 had3 now2 owner2 d2) fun r'8 =>
          (k0 (r'8.2.2.1, 22, keeps, r'8.1, r'8.2.1, next', event)))
        (onP no (f18 now2 d2) fun r'9 =>
          (onP no (f19 own3 had3 now2 owner2 d2) fun r'10 =>
          (k0 (r'10.2.2.1, due, keeps, r'10.1, r'10.2.1, (owner2, r'9, ()), (1, owner2, now2, r'9, ())))))))
    (onP no (f19 own3 had3 now2 owner2 d2) fun r'11 =>
      (k0 (r'11.2.2.1, 1, keeps, r'11.1, r'11.2.1, next', event))))
  (brP (y11 == 2)
    (brP (!(!right1))
      (brP (decide (d2 < 1))
        (onP no (f20 own3 had3 now2 owner2 d2) fun r'12 =>
          (k0 (r'12.2.2.1, 1, keeps, r'12.1, r'12.2.1, next', event)))
        (brP (!runs)
          (onP no (f20 own3 had3 now2 owner2 d2) fun r'13 =>
            (k0 (r'13.2.2.1, 23, keeps, r'13.1, r'13.2.1, next', event)))
          (brP (!(own3.1 == owner2))
            (onP no (f20 own3 had3 now2 owner2 d2) fun r'14 =>
              (k0 (r'14.2.2.1, 24, keeps, r'14.1, r'14.2.1, next', event)))
            (onP no (f18 now2 d2) fun r'15 =>
              (onP no (f20 own3 had3 now2 owner2 d2) fun r'16 =>
              (k0 (r'16.2.2.1, due, keeps, r'16.1, r'16.2.1, (owner2, r'15, ()), (2, owner2, now2, r'15, ()))))))))
      (onP no (f20 own3 had3 now2 owner2 d2) fun r'17 =>
        (k0 (r'17.2.2.1, 1, keeps, r'17.1, r'17.2.1, next', event))))
    (brP (y11 == 3)
      (brP (!right1)
        (onP no (f21 own3 had3 now2 owner2) fun r'18 =>
          (k0 (r'18.2.2.1, 1, keeps, r'18.1, r'18.2.1, next', event)))
        (brP (!runs)
          (onP no (f21 own3 had3 now2 owner2) fun r'19 =>
            (k0 (r'19.2.2.1, 23, keeps, r'19.1, r'19.2.1, next', event)))
          (brP (!(own3.1 == owner2))
            (onP no (f21 own3 had3 now2 owner2) fun r'20 =>
              (k0 (r'20.2.2.1, 24, keeps, r'20.1, r'20.2.1, next', event)))
            (onP no (f21 own3 had3 now2 owner2) fun r'21 =>
              (k0 (r'21.2.2.1, due, false, r'21.1, r'21.2.1, next', (3, owner2, now2, now2, ())))))))
      (brP (!(!right1))
        (brP (!(to'2 == ([] : List Int)))
          (brP (decide (((List.length to'2) : Int) > 32))
            (onP no (f22 own3 had3 now2 owner2 to'2) fun r'22 =>
              (k0 (r'22.2.2.1, 1, keeps, r'22.1, r'22.2.1, next', event)))
            (brP (!runs)
              (onP no (f22 own3 had3 now2 owner2 to'2) fun r'23 =>
                (k0 (r'23.2.2.1, 23, keeps, r'23.1, r'23.2.1, next', event)))
              (brP (!(own3.1 == owner2))
                (onP no (f22 own3 had3 now2 owner2 to'2) fun r'24 =>
                  (k0 (r'24.2.2.1, 24, keeps, r'24.1, r'24.2.1, next', event)))
                (onP no (f22 own3 had3 now2 owner2 to'2) fun r'25 =>
                  (k0 (r'25.2.2.1, due, keeps, r'25.1, r'25.2.1, (to'2, own3.2.1, ()), (4, to'2, now2, own3.2.1, ())))))))
          (onP no (f22 own3 had3 now2 owner2 to'2) fun r'26 =>
            (k0 (r'26.2.2.1, 1, keeps, r'26.1, r'26.2.1, next', event))))
        (onP no (f22 own3 had3 now2 owner2 to'2) fun r'27 =>
          (k0 (r'27.2.2.1, 1, keeps, r'27.1, r'27.2.1, next', event))))))))
noncomputable def f4_3 (had3 : Bool) (now2 : Int) (d2 : Int) (owner2 : List Int) (to'2 : List Int) (right1 : Bool) (runs : Bool) (due : Int) (keeps : Bool) (y11 : Int) (own3 : List Int × Int × Unit) (next' : List Int × Int × Unit) (event : Int × List Int × Int × Int × Unit) : Option (Int × Int × Bool × (List Int × Int × Unit) × (Int × List Int × Int × Int × Unit) × (List Int × Int × Unit) × (Int × List Int × Int × Int × Unit)) := sealO (f4_3_s none (fun z => some (z)) had3 now2 d2 owner2 to'2 right1 runs due keeps y11 own3 next' event)
theorem f4_3_eq (had3 : Bool) (now2 : Int) (d2 : Int) (owner2 : List Int) (to'2 : List Int) (right1 : Bool) (runs : Bool) (due : Int) (keeps : Bool) (y11 : Int) (own3 : List Int × Int × Unit) (next' : List Int × Int × Unit) (event : Int × List Int × Int × Int × Unit) : f4_3 had3 now2 d2 owner2 to'2 right1 runs due keeps y11 own3 next' event = f4_3_s none (fun z => some (z)) had3 now2 d2 owner2 to'2 right1 runs due keeps y11 own3 next' event := sealO_eq _
theorem f4_3_P (K : (Int × Int × Bool × (List Int × Int × Unit) × (Int × List Int × Int × Int × Unit) × (List Int × Int × Unit) × (Int × List Int × Int × Int × Unit)) → Prop) (had3 : Bool) (now2 : Int) (d2 : Int) (owner2 : List Int) (to'2 : List Int) (right1 : Bool) (runs : Bool) (due : Int) (keeps : Bool) (y11 : Int) (own3 : List Int × Int × Unit) (next' : List Int × Int × Unit) (event : Int × List Int × Int × Int × Unit) : optK (f4_3 had3 now2 d2 owner2 to'2 right1 runs due keeps y11 own3 next' event) K → f4_3_s False (fun z => K (z)) had3 now2 d2 owner2 to'2 right1 runs due keeps y11 own3 next' event := fun h => Eq.mp (by simp only [f4_3_eq, f4_3_s, optK_br, optK_gd, optK_on, optK_let, optK_case, optK_yes, optK_no]) h
def f4_3_sh : SSh := ⟨slots 261 [(3, (.ref .str 0)), (4, (.ptr 1 [])), (5, (.val .bool)), (6, (.val (.fn 17 .unit))), (7, (.val (.fn 18 .unit))), (10, (.val (.int .u64))), (11, (.val (.int .u64))), (12, (.val .str)), (13, (.val .str)), (14, (.val .bool)), (15, (.val .bool)), (16, (.ptr 2 [])), (17, (.ptr 3 [])), (19, (.val (.int .i64))), (20, (.ptr 4 [])), (21, (.ptr 5 [])), (22, (.val .bool)), (36, (.ref (.arr 4 (.int .u8)) 6)), (37, (.val (.int .i64))), (38, (.val (.int .i64))), (80, (.val (.int .u8)))], [.row .str false, .box (.val (.pair .str (.pair (.int .u64) .unit))) false, .box (.val (.pair .str (.pair (.int .u64) .unit))) false, .box (.val (.pair (.int .i64) (.pair .str (.pair (.int .u64) (.pair (.int .u64) .unit))))) false, .box (.val (.pair .str (.pair (.int .u64) .unit))) false, .box (.val (.pair (.int .i64) (.pair .str (.pair (.int .u64) (.pair (.int .u64) .unit))))) false, .row (.arr 4 (.int .u8)) false]⟩
def f4_3_e0 : SSh := ⟨slots 261 [(3, (.ref .str 0)), (4, (.ptr 1 [])), (5, (.val .bool)), (6, (.val (.fn 17 .unit))), (7, (.val (.fn 18 .unit))), (10, (.val (.int .u64))), (11, (.val (.int .u64))), (12, (.val .str)), (14, (.val .bool)), (16, (.ptr 2 [])), (17, (.ptr 3 [])), (18, (.val (.int .i64))), (19, (.val (.int .i64))), (20, (.ptr 4 [])), (21, (.ptr 5 [])), (22, (.val .bool)), (36, (.ref (.arr 4 (.int .u8)) 6)), (37, (.val (.int .i64))), (38, (.val (.int .i64)))], [.row .str false, .box (.val (.pair .str (.pair (.int .u64) .unit))) false, .box (.val (.pair .str (.pair (.int .u64) .unit))) false, .box (.val (.pair (.int .i64) (.pair .str (.pair (.int .u64) (.pair (.int .u64) .unit))))) false, .box (.val (.pair .str (.pair (.int .u64) .unit))) false, .box (.val (.pair (.int .i64) (.pair .str (.pair (.int .u64) (.pair (.int .u64) .unit))))) false, .row (.arr 4 (.int .u8)) false]⟩
noncomputable def f4_3_fin (s : f4_3_sh.L) (r : Int × Int × Bool × (List Int × Int × Unit) × (Int × List Int × Int × Int × Unit) × (List Int × Int × Unit) × (Int × List Int × Int × Int × Unit)) (K : XK) : Prop := K .norm (f4_3_e0.mk' (((), (), s.1.2.2.1, (), (), s.1.2.2.2.2.2.1, s.1.2.2.2.2.2.2.1, s.1.2.2.2.2.2.2.2.1, s.1.2.2.2.2.2.2.2.2.2.1, (), (), r.1, r.2.1, (), (), r.2.2.1, (), s.1.2.2.2.2.2.2.2.2.2.2.2.2.2.2.2.2.2.2.1, s.1.2.2.2.2.2.2.2.2.2.2.2.2.2.2.2.2.2.2.2.1, ()), (s.2.1, s.2.2.1, r.2.2.2.1, r.2.2.2.2.1, r.2.2.2.2.2.1, r.2.2.2.2.2.2, s.2.2.2.2.2.2.2.1, ())))
noncomputable def f4_3_f (s : f4_3_sh.L) : Option (Int × Int × Bool × (List Int × Int × Unit) × (Int × List Int × Int × Int × Unit) × (List Int × Int × Unit) × (Int × List Int × Int × Int × Unit)) := f4_3 s.1.2.2.1 s.1.2.2.2.2.2.1 s.1.2.2.2.2.2.2.1 s.1.2.2.2.2.2.2.2.1 s.1.2.2.2.2.2.2.2.2.1 s.1.2.2.2.2.2.2.2.2.2.1 s.1.2.2.2.2.2.2.2.2.2.2.1 s.1.2.2.2.2.2.2.2.2.2.2.2.2.2.1 s.1.2.2.2.2.2.2.2.2.2.2.2.2.2.2.2.2.1 s.1.2.2.2.2.2.2.2.2.2.2.2.2.2.2.2.2.2.2.2.2.1 s.2.2.1 s.2.2.2.2.2.1 s.2.2.2.2.2.2.1
noncomputable def f4_3_S : Summ := ⟨[(3, .keep), (4, .keep), (5, .keep), (6, .keep), (7, .keep), (10, .keep), (11, .keep), (12, .keep), (13, .keep), (14, .keep), (15, .keep), (16, .keep), (17, .keep), (19, .keep), (20, .keep), (21, .keep), (22, .keep), (36, .keep), (37, .keep), (38, .keep), (80, .keep)], [(3, .keep), (4, .keep), (5, .keep), (6, .keep), (7, .keep), (10, .keep), (11, .keep), (12, .keep), (14, .keep), (16, .keep), (17, .keep), (18, .keep), (19, .keep), (20, .keep), (21, .keep), (22, .keep), (36, .keep), (37, .keep), (38, .keep)], [(3, .keep), (4, .keep), (5, .keep), (6, .keep), (7, .keep), (36, .keep), (37, .keep), (38, .keep)], [(2, .keep)], runS f4_3_sh f4_3_f f4_3_fin⟩
noncomputable def f4_3_m0 : MT := (.one (.two f4_4_m .leaf))
noncomputable def f4_3_m : MT := .sum f4_3_S f4_3_m0
noncomputable def f4_3_c : Code := seqB (seqA (seqB (seqB (seqB (seqB (seqB (seqB (seqB (seqB (seqB (blockC (seqA (seqB (seqB (blockC (blockC (seqB (seqA (seqB (seqB (seqB (seqB (seqB (seqB (bodyOf Try.f4)))))))))))))))))))))))))
theorem f4_3_ok : Ob.ok f4_cx ⟨f4_3_S, f4_3_c, f4_3_m0⟩ := by
  refine part_ok (fun s K h => ?_)
  have h : optK (f4_3 s.1.2.2.1 s.1.2.2.2.2.2.1 s.1.2.2.2.2.2.2.1 s.1.2.2.2.2.2.2.2.1 s.1.2.2.2.2.2.2.2.2.1 s.1.2.2.2.2.2.2.2.2.2.1 s.1.2.2.2.2.2.2.2.2.2.2.1 s.1.2.2.2.2.2.2.2.2.2.2.2.2.2.1 s.1.2.2.2.2.2.2.2.2.2.2.2.2.2.2.2.2.1 s.1.2.2.2.2.2.2.2.2.2.2.2.2.2.2.2.2.2.2.2.2.1 s.2.2.1 s.2.2.2.2.2.1 s.2.2.2.2.2.2.1) (fun r => f4_3_fin s r K) := h
  have h2 := f4_3_P _ s.1.2.2.1 s.1.2.2.2.2.2.1 s.1.2.2.2.2.2.2.1 s.1.2.2.2.2.2.2.2.1 s.1.2.2.2.2.2.2.2.2.1 s.1.2.2.2.2.2.2.2.2.2.1 s.1.2.2.2.2.2.2.2.2.2.2.1 s.1.2.2.2.2.2.2.2.2.2.2.2.2.2.1 s.1.2.2.2.2.2.2.2.2.2.2.2.2.2.2.2.2.1 s.1.2.2.2.2.2.2.2.2.2.2.2.2.2.2.2.2.2.2.2.2.1 s.2.2.1 s.2.2.2.2.2.1 s.2.2.2.2.2.2.1 h
  revert h2
  refine (fun {A B : Prop} (e : A = B) (a : A) => Eq.mp e a) ?_
  kernel_rfl
noncomputable def f4_5_s {α : Type} (no : α) (k0 : Bool → α) (now4 : Int) (d4 : Int) (owner4 : List Int) (right3 : Bool) (e : Int) (due2 : Int) (own5 : List Int × Int × Unit) (got2 : List Int × Int × Unit) (told2 : Int × List Int × Int × Int × Unit) (next'2 : List Int × Int × Unit) (event2 : Int × List Int × Int × Int × Unit) : α :=
  (brP (!(e != due2))
  (brP (!(!((eqEl (.pair .str (.pair (.int .u64) .unit)) (got2 : List Int × Int × Unit) (next'2 : List Int × Int × Unit)))))
    (brP (!(!((eqEl (.pair (.int .i64) (.pair .str (.pair (.int .u64) (.pair (.int .u64) .unit)))) (told2 : Int × List Int × Int × Int × Unit) (event2 : Int × List Int × Int × Int × Unit)))))
      (onP no (f23 now4 d4) fun r'29 =>
        (onP no (f18 now4 d4) fun r'30 =>
        (brP (!(r'29 != r'30))
        (onP no (f24 own5 now4) fun r'31 =>
          (brP (!(!((r'31 == (decide (now4 < own5.2.1))))))
          (onP no (f25 owner4) fun r'32 =>
            (k0 (!((r'32 == right3)))))
          (k0 true)))
        (k0 true))))
      (k0 true))
    (k0 true))
  (k0 true))
noncomputable def f4_5 (now4 : Int) (d4 : Int) (owner4 : List Int) (right3 : Bool) (e : Int) (due2 : Int) (own5 : List Int × Int × Unit) (got2 : List Int × Int × Unit) (told2 : Int × List Int × Int × Int × Unit) (next'2 : List Int × Int × Unit) (event2 : Int × List Int × Int × Int × Unit) : Option (Bool) := sealO (f4_5_s none (fun z => some (z)) now4 d4 owner4 right3 e due2 own5 got2 told2 next'2 event2)
theorem f4_5_eq (now4 : Int) (d4 : Int) (owner4 : List Int) (right3 : Bool) (e : Int) (due2 : Int) (own5 : List Int × Int × Unit) (got2 : List Int × Int × Unit) (told2 : Int × List Int × Int × Int × Unit) (next'2 : List Int × Int × Unit) (event2 : Int × List Int × Int × Int × Unit) : f4_5 now4 d4 owner4 right3 e due2 own5 got2 told2 next'2 event2 = f4_5_s none (fun z => some (z)) now4 d4 owner4 right3 e due2 own5 got2 told2 next'2 event2 := sealO_eq _
theorem f4_5_P (K : Bool → Prop) (now4 : Int) (d4 : Int) (owner4 : List Int) (right3 : Bool) (e : Int) (due2 : Int) (own5 : List Int × Int × Unit) (got2 : List Int × Int × Unit) (told2 : Int × List Int × Int × Int × Unit) (next'2 : List Int × Int × Unit) (event2 : Int × List Int × Int × Int × Unit) : optK (f4_5 now4 d4 owner4 right3 e due2 own5 got2 told2 next'2 event2) K → f4_5_s False (fun z => K (z)) now4 d4 owner4 right3 e due2 own5 got2 told2 next'2 event2 := fun h => Eq.mp (by simp only [f4_5_eq, f4_5_s, optK_br, optK_gd, optK_on, optK_let, optK_case, optK_yes, optK_no]) h
def f4_5_sh : SSh := ⟨slots 261 [(3, (.ref .str 0)), (4, (.ptr 1 [])), (5, (.val .bool)), (6, (.val (.fn 17 .unit))), (7, (.val (.fn 18 .unit))), (10, (.val (.int .u64))), (11, (.val (.int .u64))), (12, (.val .str)), (14, (.val .bool)), (16, (.ptr 2 [])), (17, (.ptr 3 [])), (18, (.val (.int .i64))), (19, (.val (.int .i64))), (20, (.ptr 4 [])), (21, (.ptr 5 [])), (22, (.val .bool)), (36, (.ref (.arr 4 (.int .u8)) 6)), (37, (.val (.int .i64))), (38, (.val (.int .i64)))], [.row .str false, .box (.val (.pair .str (.pair (.int .u64) .unit))) false, .box (.val (.pair .str (.pair (.int .u64) .unit))) false, .box (.val (.pair (.int .i64) (.pair .str (.pair (.int .u64) (.pair (.int .u64) .unit))))) false, .box (.val (.pair .str (.pair (.int .u64) .unit))) false, .box (.val (.pair (.int .i64) (.pair .str (.pair (.int .u64) (.pair (.int .u64) .unit))))) false, .row (.arr 4 (.int .u8)) false]⟩
def f4_5_e0 : SSh := ⟨slots 261 [(3, (.ref .str 0)), (4, (.ptr 1 [])), (5, (.val .bool)), (6, (.val (.fn 17 .unit))), (7, (.val (.fn 18 .unit))), (19, (.val (.int .i64))), (20, (.ptr 2 [])), (22, (.val .bool)), (36, (.ref (.arr 4 (.int .u8)) 3)), (37, (.val (.int .i64))), (38, (.val (.int .i64))), (255, (.val .bool))], [.row .str false, .box (.val (.pair .str (.pair (.int .u64) .unit))) false, .box (.val (.pair .str (.pair (.int .u64) .unit))) false, .row (.arr 4 (.int .u8)) false]⟩
noncomputable def f4_5_fin (s : f4_5_sh.L) (r : Bool) (K : XK) : Prop := K .norm (f4_5_e0.mk' (((), (), s.1.2.2.1, (), (), s.1.2.2.2.2.2.2.2.2.2.2.2.2.1, (), s.1.2.2.2.2.2.2.2.2.2.2.2.2.2.2.2.1, (), s.1.2.2.2.2.2.2.2.2.2.2.2.2.2.2.2.2.2.1, s.1.2.2.2.2.2.2.2.2.2.2.2.2.2.2.2.2.2.2.1, r, ()), (s.2.1, s.2.2.1, s.2.2.2.2.2.1, s.2.2.2.2.2.2.2.1, ())))
noncomputable def f4_5_f (s : f4_5_sh.L) : Option (Bool) := f4_5 s.1.2.2.2.2.2.1 s.1.2.2.2.2.2.2.1 s.1.2.2.2.2.2.2.2.1 s.1.2.2.2.2.2.2.2.2.1 s.1.2.2.2.2.2.2.2.2.2.2.2.1 s.1.2.2.2.2.2.2.2.2.2.2.2.2.1 s.2.2.1 s.2.2.2.1 s.2.2.2.2.1 s.2.2.2.2.2.1 s.2.2.2.2.2.2.1
noncomputable def f4_5_S : Summ := ⟨[(3, .keep), (4, .keep), (5, .keep), (6, .keep), (7, .keep), (10, .keep), (11, .keep), (12, .keep), (14, .keep), (16, .keep), (17, .keep), (18, .keep), (19, .keep), (20, .keep), (21, .keep), (22, .keep), (36, .keep), (37, .keep), (38, .keep)], [(3, .keep), (4, .keep), (5, .keep), (6, .keep), (7, .keep), (19, .keep), (20, .keep), (22, .keep), (36, .keep), (37, .keep), (38, .keep), (255, .keep)], [(3, .keep), (4, .keep), (5, .keep), (6, .keep), (7, .keep), (36, .keep), (37, .keep), (38, .keep)], [(2, .keep)], runS f4_5_sh f4_5_f f4_5_fin⟩
noncomputable def f4_5_m0 : MT := .leaf
noncomputable def f4_5_m : MT := .sum f4_5_S f4_5_m0
noncomputable def f4_5_c : Code := seqA (seqA (seqB (seqB (seqB (seqB (seqB (seqB (seqB (seqB (seqB (seqB (blockC (seqA (seqB (seqB (blockC (blockC (seqB (seqA (seqB (seqB (seqB (seqB (seqB (seqB (bodyOf Try.f4))))))))))))))))))))))))))
theorem f4_5_ok : Ob.ok f4_cx ⟨f4_5_S, f4_5_c, f4_5_m0⟩ := by
  refine part_ok (fun s K h => ?_)
  have h : optK (f4_5 s.1.2.2.2.2.2.1 s.1.2.2.2.2.2.2.1 s.1.2.2.2.2.2.2.2.1 s.1.2.2.2.2.2.2.2.2.1 s.1.2.2.2.2.2.2.2.2.2.2.2.1 s.1.2.2.2.2.2.2.2.2.2.2.2.2.1 s.2.2.1 s.2.2.2.1 s.2.2.2.2.1 s.2.2.2.2.2.1 s.2.2.2.2.2.2.1) (fun r => f4_5_fin s r K) := h
  have h2 := f4_5_P _ s.1.2.2.2.2.2.1 s.1.2.2.2.2.2.2.1 s.1.2.2.2.2.2.2.2.1 s.1.2.2.2.2.2.2.2.2.1 s.1.2.2.2.2.2.2.2.2.2.2.2.1 s.1.2.2.2.2.2.2.2.2.2.2.2.2.1 s.2.2.1 s.2.2.2.1 s.2.2.2.2.1 s.2.2.2.2.2.1 s.2.2.2.2.2.2.1 h
  revert h2
  refine (fun {A B : Prop} (e : A = B) (a : A) => Eq.mp e a) ?_
  kernel_rfl
noncomputable def f4_0_s {α : Type} (no : α) (kn : (Bool × Int × (List Int × Int × Unit)) → α) (k0 : Bool → α) (k1 : Unit → α) (had : Bool) (y : Int) (y1 : Int) (owners : List (List Int)) (own : List Int × Int × Unit) (y2 : List (List Int)) : α :=
  (brP (decide (y1 < y))
  (gdP no ((decide (0 ≤ y1)) && (decide (y1 < ((List.length y2) : Int))))
    (letP (List.getD y2 (Int.toNat y1) [0, 0, 0, 0]) fun t5 =>
    (onP no (f17 (List.getD t5 1 0)) fun r'2 =>
    (onP no (f17 (List.getD t5 3 0)) fun r'3 =>
    (letP (Int.tmod (List.getD t5 2 0) 5) fun t9 =>
    (gdP no ((decide (0 ≤ t9)) && (decide (t9 < ((List.length owners) : Int))))
    (letP (List.getD owners (Int.toNat t9) ([] : List Int)) fun t10 =>
    (letP (Int.tmod (List.getD t5 3 0) 5) fun t12 =>
    (gdP no ((decide (0 ≤ t12)) && (decide (t12 < ((List.length owners) : Int))))
    (onP no (f4_1 t10) fun r'4 =>
    (onP no (f4_2 had r'2 own) fun r'5 =>
    (onP no (f4_3 had r'2 r'3 t10 (List.getD owners (Int.toNat t12) ([] : List Int)) r'4 r'5 0 true (Int.tmod (List.getD t5 0 0) 6) own (([] : List Int), 0, ()) (0, ([] : List Int), 0, 0, ())) fun r'28 =>
    (onP no (f4_5 r'2 r'3 t10 r'4 r'28.1 r'28.2.1 own r'28.2.2.2.1 r'28.2.2.2.2.1 r'28.2.2.2.2.2.1 r'28.2.2.2.2.2.2) fun r'33 =>
    (brP r'33
    (k0 false)
    (brP (r'28.2.1 == 0)
      (kn (r'28.2.2.1, IntKind.wrap .i64 (y1 + 1), r'28.2.2.2.2.2.1))
      (kn (had, IntKind.wrap .i64 (y1 + 1), own)))))))))))))))))
  (k1 ()))
noncomputable def f4_0_t (y : Int) (owners : List (List Int)) (y2 : List (List Int)) (z : Bool × Int × (List Int × Int × Unit)) : Option ((Bool × Int × (List Int × Int × Unit)) ⊕ (Bool ⊕ Unit)) := f4_0_s none (fun z => some (.inl z)) (fun z => some (.inr (.inl z))) (fun z => some (.inr (.inr z))) z.1 y z.2.1 owners z.2.2 y2
noncomputable def f4_0 (had : Bool) (y : Int) (y1 : Int) (owners : List (List Int)) (own : List Int × Int × Unit) (y2 : List (List Int)) : Option (Bool ⊕ Unit) := sealO (whileO FUEL (f4_0_t y owners y2) (had, y1, own))
theorem f4_0_eq (had : Bool) (y : Int) (y1 : Int) (owners : List (List Int)) (own : List Int × Int × Unit) (y2 : List (List Int)) : f4_0 had y y1 owners own y2 = whileO FUEL (f4_0_t y owners y2) (had, y1, own) := sealO_eq _
theorem f4_0_P (K : ((Bool × Int × (List Int × Int × Unit)) ⊕ (Bool ⊕ Unit)) → Prop) (y : Int) (owners : List (List Int)) (y2 : List (List Int)) (z : Bool × Int × (List Int × Int × Unit)) : optK (f4_0_t y owners y2 z) K → f4_0_s False (fun z => K (.inl z)) (fun z => K (.inr (.inl z))) (fun z => K (.inr (.inr z))) z.1 y z.2.1 owners z.2.2 y2 := fun h => Eq.mp (by simp only [f4_0_t, f4_0_s, optK_br, optK_gd, optK_on, optK_let, optK_case, optK_yes, optK_no]) h
def f4_0_sh : SSh := ⟨slots 261 [(3, (.ref .str 0)), (4, (.ptr 1 [])), (5, (.val .bool)), (6, (.val (.fn 17 .unit))), (7, (.val (.fn 18 .unit))), (36, (.ref (.arr 4 (.int .u8)) 2)), (37, (.val (.int .i64))), (38, (.val (.int .i64)))], [.row .str false, .box (.val (.pair .str (.pair (.int .u64) .unit))) false, .row (.arr 4 (.int .u8)) false]⟩
def f4_0_e0 : SSh := ⟨slots 261 [(2, (.val .bool))], []⟩
def f4_0_e1 : SSh := ⟨slots 261 [], []⟩
noncomputable def f4_0_fin (s : f4_0_sh.L) (r : Bool ⊕ Unit) (K : XK) : Prop := caseP r (fun a => K .ret (f4_0_e0.mk' ((a, ()), ()))) (fun b => K (.out 0) (f4_0_e1.mk' ((), ())))
noncomputable def f4_0_f (s : f4_0_sh.L) : Option (Bool ⊕ Unit) := f4_0 s.1.2.2.1 s.1.2.2.2.2.2.2.1 s.1.2.2.2.2.2.2.2.1 s.2.1 s.2.2.1 s.2.2.2.1
noncomputable def f4_0_S : Summ := ⟨[(3, .keep), (4, .keep), (5, .keep), (6, .keep), (7, .keep), (36, .keep), (37, .keep), (38, .keep)], [], [], [(2, .keep)], runS f4_0_sh f4_0_f f4_0_fin⟩
noncomputable def f4_0_m0 : MT := (.loop [(3, .keep), (4, .keep), (5, .keep), (6, .keep), (7, .keep), (36, .keep), (37, .keep), (38, .keep)] [] (.two .leaf (.two .leaf (.two (.one (.two .leaf (.two .leaf (.two f4_1_m (.two f4_2_m (.two .leaf (.two .leaf (.two .leaf (.two .leaf (.two .leaf (.two (.two .leaf f4_3_m) (.two (.two f4_5_m .leaf) .leaf)))))))))))) .leaf))))
noncomputable def f4_0_m : MT := .sum f4_0_S f4_0_m0
noncomputable def f4_0_c : Code := blockC (seqB (seqA (seqB (seqB (seqB (seqB (seqB (seqB (bodyOf Try.f4)))))))))
theorem f4_0_ok : Ob.ok f4_cx ⟨f4_0_S, f4_0_c, f4_0_m0⟩ := by
  refine loop_okc (c := blockC f4_0_c) (by kernel_rfl) (fun s => by kernel_rfl) (fun s K h => ?_)
  have h := Eq.mp (congrArg (fun o => optK o (fun r => f4_0_fin s r K)) (f4_0_eq s.1.2.2.1 s.1.2.2.2.2.2.2.1 s.1.2.2.2.2.2.2.2.1 s.2.1 s.2.2.1 s.2.2.2.1)) h
  refine while_sound (S := Bool × Int × (List Int × Int × Unit)) (R := Bool ⊕ Unit) (mk := fun z => f4_0_sh.mk' (((), (), z.1, (), (), (), s.1.2.2.2.2.2.2.1, z.2.1, ()), (s.2.1, z.2.2, s.2.2.2.1, ()))) (fin := fun r => f4_0_fin s r K) (fun k z h => ?_) FUEL (s.1.2.2.1, s.1.2.2.2.2.2.2.2.1, s.2.2.1) h
  have h2 := f4_0_P _ s.1.2.2.2.2.2.2.1 s.2.1 s.2.2.2.1 z h
  revert h2
  refine (fun {A B : Prop} (e : A = B) (a : A) => Eq.mp e a) ?_
  kernel_rfl
noncomputable def f4_s {α : Type} (no : α) (kn : Bool → α) (l : List (List Int)) : α :=
  (onP no (strRep [111] 32) fun r' =>
  (onP no (strRep [111] 33) fun r'1 =>
  (letP (mnI ((List.length l) : Int) 60) fun t1 =>
  (gdP no ((decide (0 ≤ t1)) && (decide (t1 ≤ ((List.length l) : Int))))
  (letP (List.take (Int.toNat t1) l) fun t2 =>
  (gdP no (capOk (4 + (List.length t2)) 4)
  (letP ([[0, 5, 0, 10], [0, 14, 1, 1], [4, 7, 0, 2], [0, 15, 1, 1]] ++ t2) fun l1 =>
  (onP no (f4_0 false ((List.length l1) : Int) 0 [[97], [98], r', ([] : List Int), r'1] (([] : List Int), 0, ()) l1) fun q =>
  (caseP q
  (fun r'34 => (kn r'34))
  (fun q => (letP q fun r'35 =>
    (kn true))))))))))))
noncomputable def f4 (l : List (List Int)) : Option (Bool) := sealO (f4_s none some l)
theorem f4_eq (l : List (List Int)) : f4 l = f4_s none some l := sealO_eq _
theorem f4_P (K : Bool → Prop) (l : List (List Int)) : optK (f4 l) K → f4_s False K l := fun h => Eq.mp (by simp only [f4_eq, f4_s, optK_br, optK_gd, optK_on, optK_let, optK_case, optK_yes, optK_no]) h
noncomputable def f4_mt : MT := (.two .leaf (.two .leaf (.two .leaf (.two .leaf (.two .leaf (.two .leaf (.two (.two .leaf (.one f4_0_m)) .leaf)))))))
theorem f4_obls : obls (bodyOf Try.f4) f4_mt = [⟨f4_0_S, f4_0_c, f4_0_m0⟩, ⟨f4_1_S, f4_1_c, f4_1_m0⟩, ⟨f4_2_S, f4_2_c, f4_2_m0⟩, ⟨f4_3_S, f4_3_c, f4_3_m0⟩, ⟨f4_4_S, f4_4_c, f4_4_m0⟩, ⟨f4_5_S, f4_5_c, f4_5_m0⟩] := by kernel_rfl
theorem f4_ob : ∀ o ∈ obls (bodyOf Try.f4) f4_mt, Ob.ok f4_cx o := by
  rw [f4_obls]; simp only [List.forall_mem_cons]; exact ⟨f4_0_ok, f4_1_ok, f4_2_ok, f4_3_ok, f4_4_ok, f4_5_ok, by simp⟩
noncomputable def f4_spec : Spec := optSpec [some (.sl (.arr 4 (.int .u8)))] true false (fun xs => match xs with | [a0] => onP none (a0.as (.sl (.arr 4 (.int .u8)))) fun x0 => f4 x0 | _ => none) (fun r => ⟨.bool, r⟩)
theorem f4_det : f4_spec.Det := optSpec_det _ _ _ _ _
theorem f4_ok : CallOk Try.prog 4 f4_spec := by
  refine callOk_of_exec rfl mixed_ok (cxW_ok _ _ _) f4_callsOk f4_callsDet Try.func4 (show Try.f4.body = some (bodyOf Try.f4) by kernel_rfl) (by decide) (rt := some .bool) f4_ob ?_
  intro xs K hl hty _ h
  obtain ⟨x0, rfl⟩ := args1 hl hty
  have h1 : optK (f4 x0) (fun r => K ⟨.bool, r⟩) := Eq.mp (by kernel_rfl) h
  have h2 := f4_P _ x0 h1
  revert h2
  refine (fun {A B : Prop} (e : A = B) (a : A) => Eq.mp e a) ?_
  kernel_rfl

end Go.Abs
