/- The state's relation, and the operators that touch no memory. -/
import Derived.Test.YthinfcjijphooaaAbs2
namespace Go.Abs
set_option linter.unusedVariables false
set_option linter.unusedSimpArgs false
open Go

def WR (m : M) (fz : Bool) (b base n : Nat) : Prop :=
  match fz with
  | true => m.S b
  | false => ¬ m.S b ∧ ∀ j, j < n → (∃ v, m.w.cell? ⟨b, base + j, none⟩ = some v) ∧ m.w.frozen? ⟨b, base + j, none⟩ = false

def OR (m : M) (i : Nat) : Obj → Prop
  | .none => True
  | .free => True
  | .box v fz => ∃ b base cap cs, m.ρ i = some (b, base, cap) ∧ b < m.w.heap.size ∧ At m.w b base cs ∧ CR m false v.t cs v.x ∧ WR m fz b base cs.length
  | .row t l fz => (l = [] ∧ m.ρ i = none) ∨ ∃ b base cap, m.ρ i = some (b, base, cap) ∧ b < m.w.heap.size ∧ l.length ≤ cap ∧ l.length ≤ LIM ∧
      (∀ k, k < l.length → ∃ ds, ds.length = t.cells ∧ At m.w b (base + k * t.cells) ds ∧ CR m false t ds (l.getD k t.dflt)) ∧ WR m fz b base (cap * t.cells)

structure StR (m : M) : Prop where
  ok : ∀ i, i < m.H.length → OR m i (m.H.getD i .none)
  inj : ∀ i j, i < m.H.length → j < m.H.length → i ≠ j → (m.H.getD i .none).live → (m.H.getD j .none).live →
    ∀ b base cap b' base' cap', m.ρ i = some (b, base, cap) → m.ρ j = some (b', base', cap') → b ≠ b'
  bd : ∀ b, m.S b → b < m.w.heap.size

/-- An operation that hands on: whatever follows is asked of what it gives. -/
def Gives (P : Program) (o : Oper) (a : Act) (w : World) (R : Value → World → Prop) : Prop :=
  ∀ (next : Act → World → Prop) (Q : Exit → Act → World → Prop), (∀ v w', R v w' → next (a.put o.dst v) w') → o.wp P a w next Q

theorem Gives.value {P : Program} {o : Oper} {a : Act} {w w' : World} {R : Value → World → Prop} {v : Value}
    (h : (execOp a.eval o).run P w = .ok (.value v) w') (hr : R v w') : Gives P o a w R := fun next Q hn => by
  simp only [Oper.wp, h, Oper.upon_value]; exact hn _ _ hr

theorem Gives.skip {P : Program} {o : Oper} {a : Act} {w w' : World} {R : Value → World → Prop}
    (h : (execOp a.eval o).run P w = .ok .skip w') (hr : R undef w') : Gives P o a w R := fun next Q hn => by
  simp only [Oper.wp, h, Oper.upon_skip]; exact hn _ _ hr

theorem Gives.enter {P : Program} {o : Oper} {a : Act} {w w' : World} {R : Value → World → Prop} {f : FuncId} {args : Array Value}
    (h : (execOp a.eval o).run P w = .ok (.enter f args) w') (hr : Calls P f args w' fun e w'' => ∃ v, e = .returned v ∧ R v w'') : Gives P o a w R := fun next Q hn => by
  simp only [Oper.wp, h, Oper.upon_enter]
  exact hr.mono fun e w'' ⟨v, he, hR⟩ => by subst he; exact hn _ _ hR

def OpsOn (o : Oper) (m : M) (env : List V) (a : Act) : Prop := ∀ x ∈ o.op.operands.toList, ∀ u, opnd env x = some u → VR m (a.eval x) u

/-- What an operation's outcome tells of a run. -/
def Good (P : Program) (o : Oper) (env : List V) (H : List Obj) (id : Nat) (e : Eff) : Prop :=
  ∀ (m : M) (a : Act), StR m → OpsOn o m env a → m.H.length = H.length → (∀ i ∈ e.rd, i < H.length ∧ m.H.getD i .none = H.getD i .none) →
    (laysOf o.op = true → m.H[id]? = some .free) →
    Gives P o a m.w fun v w' => ∃ m' : M, m'.w = w' ∧ m'.H = ups m.H e.ups ∧ StR m' ∧ m.le m' ∧ VR m' v e.v

/-- An operation that leaves the world alone. -/
theorem Good.pure {P : Program} {o : Oper} {env : List V} {H : List Obj} {id : Nat} {u : V} {rd : List Nat}
    (h : ∀ (m : M) (a : Act), StR m → OpsOn o m env a → m.H.length = H.length → (∀ i ∈ rd, i < H.length ∧ m.H.getD i .none = H.getD i .none) → ∃ v, (execOp a.eval o).run P m.w = .ok (.value v) m.w ∧ VR m v u) :
    Good P o env H id { v := u, rd := rd } := fun m a hs ho hl hrd _ => by
  obtain ⟨v, hv, hr⟩ := h m a hs ho hl hrd
  exact Gives.value hv ⟨m, rfl, rfl, hs, M.le.refl m, hr⟩

theorem optK_some {α : Type} {o : Option α} {K : α → Prop} (h : optK o K) : ∃ a, o = some a ∧ K a := by
  cases o with
  | none => exact h.elim
  | some a => exact ⟨a, rfl, h⟩

theorem gd_true {b : Bool} {x : Prop} (h : gd b x) : b = true ∧ x := by cases b with
  | false => exact h.elim
  | true => exact ⟨rfl, h⟩

theorem br_or {b : Bool} {x y : Prop} (h : br b x y) : (b = true ∧ x) ∨ (b = false ∧ y) := by cases b with
  | false => exact .inr ⟨rfl, h⟩
  | true => exact .inl ⟨rfl, h⟩

theorem V.int?_some {v : V} {k : IntKind} {n : Int} (h : v.int? = some (k, n)) : v = ⟨.int k, n⟩ := by
  obtain ⟨t, x⟩ := v; cases t <;> simp [V.int?] at h; obtain ⟨rfl, rfl⟩ := h; rfl
theorem V.bool?_some {v : V} {b : Bool} (h : v.bool? = some b) : v = ⟨.bool, b⟩ := by
  obtain ⟨t, x⟩ := v; cases t <;> simp only [V.bool?, reduceCtorEq] at h; injection h with h; subst h; rfl
theorem V.str?_some {v : V} {l : List Int} (h : v.str? = some l) : v = ⟨.str, l⟩ := by
  obtain ⟨t, x⟩ := v; cases t <;> simp only [V.str?, reduceCtorEq] at h; injection h with h; subst h; rfl

theorem VR.int {m : M} {v : Value} {k : IntKind} {n : Int} (h : VR m v ⟨.int k, n⟩) : v = .int k n ∧ inK k n = true := by
  simp only [VR, Ty.isAgg, CR] at h; obtain ⟨h, g⟩ := h; simp at h; exact ⟨h, g⟩
theorem VR.mk_int {m : M} {k : IntKind} {n : Int} (h : inK k n = true) : VR m (.int k n) ⟨.int k, n⟩ := by
  simp [VR, Ty.isAgg, CR, h]
theorem VR.bool {m : M} {v : Value} {b : Bool} (h : VR m v ⟨.bool, b⟩) : v = .bool b := by
  simp only [VR, Ty.isAgg, CR] at h; simpa using h
theorem VR.mk_bool {m : M} {b : Bool} : VR m (.bool b) ⟨.bool, b⟩ := by simp [VR, Ty.isAgg, CR]
theorem VR.str {m : M} {v : Value} {l : List Int} (h : VR m v ⟨.str, l⟩) : ∃ s, v = .string s ∧ strOf s = l ∧ s.data.toList.length ≤ LIM := by
  simp only [VR, Ty.isAgg, CR] at h; obtain ⟨s, h, g⟩ := h; simp at h; exact ⟨s, h, g⟩
theorem VR.mk_str {m : M} {s : ByteArray} {l : List Int} (h : strOf s = l) (hl : s.data.toList.length ≤ LIM) : VR m (.string s) ⟨.str, l⟩ := by
  simp only [VR, Ty.isAgg, CR]; exact ⟨s, rfl, h, hl⟩
theorem VR.skip {m : M} : VR m Go.undef V.skip := by simp [VR, V.skip, Ty.isAgg, CR, Go.undef]

theorem inK_iff {k : IntKind} {n : Int} : inK k n = true ↔ k.min ≤ n ∧ n ≤ k.max := by simp [inK]

theorem inK_wrap (k : IntKind) (n : Int) : inK k (k.wrap n) = true := by
  rw [inK_iff]
  cases k <;> simp [IntKind.wrap, IntKind.min, IntKind.max, IntKind.signed, IntKind.bits] <;> (try split) <;> omega

theorem opnd_const {m : M} {env : List V} {c : Value} {u : V} (h : opnd env (.const c) = some u) : VR m c u := by
  simp only [opnd] at h
  unfold constV at h
  split at h
  · split at h
    · simp at h; subst h; exact VR.mk_int (by assumption)
    · cases h
  · simp at h; subst h; exact VR.mk_bool
  · split at h
    · rename_i hd; simp at h; subst h; exact VR.mk_str rfl (by simpa using hd)
    · cases h
  · simp at h; subst h; simp [VR, Ty.isAgg, CR]
  · simp at h; subst h; simp [VR, Ty.isAgg, CR]
  · simp at h; subst h; simp [VR, Ty.isAgg, CR]
  · simp at h; subst h; simp [VR, Ty.isAgg, CR]
  · cases h

/-! #### Operators -/

theorem strOf_inj {a b : ByteArray} (h : strOf a = strOf b) : a = b := by
  unfold strOf at h
  have : a.data.toList = b.data.toList := by
    have inj : ∀ (x y : List UInt8), x.map (fun b => (b.toNat : Int)) = y.map (fun b => (b.toNat : Int)) → x = y := by
      intro x
      induction x with
      | nil => intro y h; cases y <;> simp_all
      | cons c x ih =>
        intro y h
        cases y with
        | nil => simp at h
        | cons d y =>
          simp only [List.map_cons, List.cons.injEq] at h
          rw [ih y h.2, UInt8.toNat_inj.1 (by omega : c.toNat = d.toNat)]
    exact inj _ _ h
  cases a; cases b; simp_all

theorem ltS_bytes : ∀ (x y : List UInt8), ltS (x.map fun b => (b.toNat : Int)) (y.map fun b => (b.toNat : Int)) = Go.Op.bytesLess x y
  | _, [] => by cases ‹List UInt8› <;> simp [ltS, Go.Op.bytesLess]
  | [], _ :: _ => by simp [ltS, Go.Op.bytesLess]
  | a :: x, b :: y => by
    simp only [List.map_cons, ltS, Go.Op.bytesLess, ltS_bytes x y]
    have h1 : decide ((a.toNat : Int) < b.toNat) = decide (a < b) := by simp [UInt8.lt_iff_toNat_lt]
    have h2 : ((a.toNat : Int) == (b.toNat : Int)) = (a == b) := by
      rw [Bool.eq_iff_iff]; simp only [beq_iff_eq]
      constructor
      · intro h; exact UInt8.toNat_inj.1 (by omega)
      · intro h; rw [h]
    rw [h1, h2]

theorem eq_bytes (a b : ByteArray) : (strOf a == strOf b) = (a.toList == b.toList) := by
  rw [ByteArray.toList_eq, ByteArray.toList_eq, Bool.eq_iff_iff]
  simp only [beq_iff_eq]
  constructor
  · intro h; rw [strOf_inj h]
  · intro h; unfold strOf; rw [h]

theorem lt_bytes (a b : ByteArray) : ltS (strOf a) (strOf b) = Go.Op.bytesLess a.toList b.toList := by
  rw [ByteArray.toList_eq, ByteArray.toList_eq]; exact ltS_bytes _ _

theorem strOf_append (a b : ByteArray) : strOf (a ++ b) = strOf a ++ strOf b := by
  simp [strOf, ByteArray.data_append]

theorem strOf_length (a : ByteArray) : (strOf a).length = a.data.toList.length := by simp [strOf]

theorem inK_tmod {k : IntKind} {x y : Int} (hx : inK k x = true) (hy : inK k y = true) : inK k (x.tmod y) = true := by
  rw [inK_iff] at *
  by_cases h0 : 0 ≤ x
  · have h1 := Int.tmod_nonneg y h0
    have h2 : x.tmod y ≤ x := by
      rw [Int.tmod_def]
      have : 0 ≤ y * x.tdiv y := by
        by_cases hy0 : 0 ≤ y
        · exact Int.mul_nonneg hy0 (Int.tdiv_nonneg h0 hy0)
        · have : x.tdiv y ≤ 0 := Int.tdiv_nonpos_of_nonneg_of_nonpos h0 (by omega)
          exact Int.mul_nonneg_of_nonpos_of_nonpos (by omega) this
      omega
    have : k.min ≤ 0 := by cases k <;> decide
    omega
  · have h1 : (x.tmod y) ≤ 0 := by
      have := Int.tmod_nonneg y (show 0 ≤ -x by omega)
      rw [Int.neg_tmod] at this; omega
    have h2 : x ≤ x.tmod y := by
      have hh : (-x).tmod y ≤ -x := by
        rw [Int.tmod_def]
        have : 0 ≤ y * (-x).tdiv y := by
          by_cases hy0 : 0 ≤ y
          · exact Int.mul_nonneg hy0 (Int.tdiv_nonneg (by omega) hy0)
          · have : (-x).tdiv y ≤ 0 := Int.tdiv_nonpos_of_nonneg_of_nonpos (by omega) (by omega)
            exact Int.mul_nonneg_of_nonpos_of_nonpos (by omega) this
        omega
      rw [Int.neg_tmod] at hh; omega
    have : 0 ≤ k.max := by cases k <;> decide
    omega

theorem inK_div {k : IntKind} {x : Int} {n : Nat} (hx : inK k x = true) : inK k (x / 2 ^ n) = true := by
  rw [inK_iff] at *
  have hp : (0 : Int) < 2 ^ n := by
    have : (0 : Nat) < 2 ^ n := Nat.pow_pos (by omega)
    exact_mod_cast this
  have h1 : k.min ≤ 0 := by cases k <;> decide
  have h2 : 0 ≤ k.max := by cases k <;> decide
  by_cases h0 : 0 ≤ x
  · have := Int.ediv_nonneg h0 (by omega : (0:Int) ≤ 2 ^ n)
    have h3 : x / 2 ^ n ≤ x := Int.ediv_le_self _ h0
    omega
  · have h3 : x ≤ x / 2 ^ n := by
      have := Int.ediv_le_ediv (c := 2 ^ n) hp (show x * 2 ^ n ≤ x from by
        have : x * 2 ^ n ≤ x * 1 := Int.mul_le_mul_of_nonpos_left (by omega) (by omega)
        omega)
      rwa [Int.mul_ediv_cancel _ (by omega)] at this
    have h4 : x / 2 ^ n < 0 := Int.ediv_neg_of_neg_of_pos (by omega) hp
    omega

theorem run_binI {op : BinOp} {k : IntKind} {x y : Int} {K : V → Prop} (hs : isShift op = false) (h : binI op k x y K) :
    ∃ u : V, K u ∧ ∀ (P : Program) (w : World) (t : TypeId), inK k x = true → inK k y = true → ∃ v, (binOp op t (.int k x) (.int k y)).run P w = .ok v w ∧ ∀ m, VR m v u := by
  cases op <;> simp only [isShift, Bool.true_eq_false, reduceCtorEq] at hs <;> simp only [binI, cmpI, optK] at h
  case add => exact ⟨_, h, fun P w t hx hy => ⟨_, by simp [binOp, Go.Op.intArith], fun m => VR.mk_int (inK_wrap _ _)⟩⟩
  case sub => exact ⟨_, h, fun P w t hx hy => ⟨_, by simp [binOp, Go.Op.intArith], fun m => VR.mk_int (inK_wrap _ _)⟩⟩
  case mul => exact ⟨_, h, fun P w t hx hy => ⟨_, by simp [binOp, Go.Op.intArith], fun m => VR.mk_int (inK_wrap _ _)⟩⟩
  case quo =>
    obtain ⟨h0, h⟩ := gd_true h
    exact ⟨_, h, fun P w t hx hy => ⟨_, by have : ¬ y = 0 := by simpa using h0
                                           simp [binOp, Go.Op.intDiv, this], fun m => VR.mk_int (inK_wrap _ _)⟩⟩
  case rem =>
    obtain ⟨h0, h⟩ := gd_true h
    exact ⟨_, h, fun P w t hx hy => ⟨_, by have : ¬ y = 0 := by simpa using h0
                                           simp [binOp, Go.Op.intDiv, this], fun m => VR.mk_int (inK_tmod hx hy)⟩⟩
  case and => exact ⟨_, h, fun P w t hx hy => ⟨_, by rw [binOp_and]; rfl, fun m => VR.mk_int (inK_wrap _ _)⟩⟩
  case or => exact ⟨_, h, fun P w t hx hy => ⟨_, by rw [binOp_or]; rfl, fun m => VR.mk_int (inK_wrap _ _)⟩⟩
  case xor => exact ⟨_, h, fun P w t hx hy => ⟨_, by rw [binOp_xor]; rfl, fun m => VR.mk_int (inK_wrap _ _)⟩⟩
  case andNot => exact ⟨_, h, fun P w t hx hy => ⟨_, by rw [binOp_andNot]; rfl, fun m => VR.mk_int (inK_wrap _ _)⟩⟩
  all_goals exact ⟨_, h, fun P w t hx hy => ⟨_, by simp [binOp, Go.Op.intCmp], fun m => VR.mk_bool⟩⟩

end Go.Abs
