/- Indexes, slices, lengths, conversions that read. -/
import Derived.Laws.BytesArg
import Derived.Test.YthinfcjijphooaaAbs7
namespace Go.Abs
set_option linter.unusedVariables false
set_option linter.unusedSimpArgs false
open Go

section
variable {P : Program} {cx : Ctx} {o : Oper} {env : List V} {H : List Obj} {id : Nat} {K : Eff → Prop}

def ORel (m : M) : Option V → Option Value → Prop
  | none, none => True
  | some u, some v => VR m v u
  | _, _ => False

theorem run_bnd {m : M} {w : World} {u : V} {v : Value} {a : Int} {y : Nat} {d : Int} {code : Go.BoundsCode} (hb : bnd (some u) d = some a) (hr : VR m v u) (h0 : 0 ≤ a) (h1 : a ≤ y) :
    (Go.Instr.sliceBound v y code).run P w = .ok a.toNat w := by
  simp only [bnd] at hb
  split at hb
  · rename_i k n hn
    simp only [Option.some.injEq] at hb; subst hb
    have hn := V.int?_some hn
    subst hn
    obtain ⟨rfl, _⟩ := VR.int hr
    exact run_sliceBound w k n y code h0 h1
  · cases hb

theorem bnds_run {lo hi : Option V} {n : Nat} {K : Nat → Nat → Prop} (h : bnds lo hi n K) :
    ∃ a b, K a b ∧ a ≤ b ∧ b ≤ n ∧ (lo = none → a = 0) ∧ (hi = none → b = n) ∧ ∀ (m : M) (w : World) (vlo vhi : Option Value), ORel m lo vlo → ORel m hi vhi → ∀ (isS : Bool) (len cap : Nat), len = n → n ≤ cap →
      (Go.Instr.sliceBounds isS len cap vlo vhi none).run P w = .ok (a, b, cap) w := by
  unfold bnds at h
  split at h
  · rename_i a b ha hb
    obtain ⟨h0, h⟩ := gd_true h
    simp only [Bool.and_eq_true, decide_eq_true_eq] at h0
    refine ⟨a.toNat, b.toNat, h, by omega, by omega, ?_, ?_, ?_⟩
    · intro e; subst e; simp [bnd] at ha; subst ha; rfl
    · intro e; subst e; simp [bnd] at hb; subst hb; rfl
    · intro m w vlo vhi rlo rhi isS len cap hlen hcap
      subst hlen
      cases hi with
      | none =>
        cases vhi with
        | some _ => exact rhi.elim
        | none =>
          simp [bnd] at hb; subst hb
          cases lo with
          | none =>
            cases vlo with
            | some _ => exact rlo.elim
            | none => simp [bnd] at ha; subst ha; simp [Go.Instr.sliceBounds]
          | some u =>
            cases vlo with
            | none => exact rlo.elim
            | some v => simp [Go.Instr.sliceBounds, run_bnd (P := P) (w := w) ha rlo (by omega) (show a ≤ (len : Int) by omega)]
      | some u =>
        cases vhi with
        | none => exact rhi.elim
        | some v =>
          have e1 := fun code => run_bnd (P := P) (w := w) (code := code) hb rhi (by omega) (show b ≤ (cap : Int) by omega)
          cases lo with
          | none =>
            cases vlo with
            | some _ => exact rlo.elim
            | none => simp [bnd] at ha; subst ha; simp [Go.Instr.sliceBounds, e1]
          | some u =>
            cases vlo with
            | none => exact rlo.elim
            | some v' =>
              have e2 := fun code => run_bnd (P := P) (w := w) (code := code) ha rlo (by omega) (show a ≤ (b.toNat : Int) by omega)
              simp [Go.Instr.sliceBounds, e1, e2]
  · exact h.elim

theorem strOf_extract (s : ByteArray) (a b : Nat) (h : b ≤ s.data.toList.length) : strOf (s.extract a b) = ((strOf s).drop a).take (b - a) := by
  unfold strOf
  rw [← List.map_drop, ← List.map_take]
  congr 1
  simp [ByteArray.data_extract]

theorem getD_cut {α : Type} (l : List α) (a b i : Nat) (d : α) (h : i < b - a) : List.getD (List.take (b - a) (List.drop a l)) i d = List.getD l (a + i) d := by
  simp only [List.getD_eq_getElem?_getD]
  rw [List.getElem?_take_of_lt h, List.getElem?_drop]
theorem length_cut {α : Type} (l : List α) (a b : Nat) (h : b ≤ l.length) : (List.take (b - a) (List.drop a l)).length = b - a := by
  simp only [List.length_take, List.length_drop]; omega

def OpO (env : List V) : Option Operand → Option V → Prop
  | none, none => True
  | some y, some v => opnd env y = some v
  | _, _ => False

theorem opt_rel {m : M} {a : Act} {x : Option Operand} (hon : OpsOn o m env a) (hm : ∀ y, x = some y → y ∈ o.op.operands.toList) {u : Option V}
    (h : OpO env x u) : ORel m u (x.map a.eval) := by
  cases x <;> cases u <;> simp only [OpO, ORel, Option.map] at h ⊢
  · exact hon _ (hm _ rfl) _ h

/-- What a slice expression's bounds come to. -/
theorem fine_slice_pure {t : Nat} {x : Operand} {lo hi : Option Operand} (ho : o.op = .slice t x lo hi none) {v : V} (hx : opnd env x = some v) {ulo uhi : Option V}
    (hlo : OpO env lo ulo) (hhi : OpO env hi uhi)
    (hcx : CxOk P cx) (h : sliceV H cx t v ulo uhi K) (hna : ∀ a, (cx.ty t).kind ≠ .ptr a) : Fine P o env H id K := by
  have hox : x ∈ o.op.operands.toList := by simp [ho, Op.operands]
  have hol : ∀ y, lo = some y → y ∈ o.op.operands.toList := fun y e => by simp [ho, Op.operands, e]
  have hoh : ∀ y, hi = some y → y ∈ o.op.operands.toList := fun y e => by simp [ho, Op.operands, e]
  unfold sliceV at h
  split at h
  · rename_i hk
    have hu := elem_str hcx hk
    split at h
    · rename_i l
      obtain ⟨a, b, h, h1, h2, _, _, hr⟩ := bnds_run (P := P) h
      refine ⟨_, h, Good.pure fun m ac hs hon _ _ => ?_⟩
      obtain ⟨s, e, rfl, hl⟩ := VR.str (hon x hox _ hx)
      refine ⟨.string (s.extract a b), ?_, VR.mk_str (strOf_extract s a b (by rw [← strOf_length]; exact h2)) (by
        rw [← strOf_length, strOf_extract s a b (by rw [← strOf_length]; exact h2)]
        simp only [List.length_take, List.length_drop, strOf_length]; unfold LIM at *; omega)⟩
      have hb := hr m m.w _ _ (opt_rel hon hol hlo) (opt_rel hon hoh hhi) false s.size s.size (by rw [strOf_length]; exact Array.length_toList.symm) (by rw [strOf_length]; exact Nat.le_of_eq Array.length_toList)
      simp only [execOp, ho, e, Go.Instr.sliceAt, Sem.run_bind, run_underlying hu, Result.andThen_ok, Go.Instr.slice, Option.map_none]
      simp [run_underlying hu, hb]
    · exact h.elim
  · rename_i e hk
    obtain ⟨hkn, h⟩ := gd_true h
    have hu := elem_slice hcx hk
    have hz := known_size hcx hkn
    split at h
    · obtain ⟨a, b, h, h1, h2, _, _, hr⟩ := bnds_run (P := P) h
      refine ⟨_, h, Good.pure fun m ac hs hon _ _ => ?_⟩
      have e1 := VR.nilS (hon x hox _ hx)
      refine ⟨.slice none 0 0, ?_, by simp [VR, Ty.isAgg, CR, ret]⟩
      have hb := hr m m.w _ _ (opt_rel hon hol hlo) (opt_rel hon hoh hhi) true 0 0 rfl (Nat.le_refl _)
      obtain rfl : b = 0 := by omega
      obtain rfl : a = 0 := by omega
      simp only [execOp, ho, e1, Go.Instr.sliceAt, Sem.run_bind, run_underlying hu, Result.andThen_ok, Go.Instr.slice, Option.map_none]
      simp [run_underlying hu, hb, hz]
    · rename_i s l _
      obtain ⟨hsz, h⟩ := gd_true h
      simp only [decide_eq_true_eq] at hsz
      obtain ⟨a, b, h, h1, h2, _, _, hr⟩ := bnds_run (P := P) h
      refine ⟨_, h, Good.pure fun m ac hs hon _ _ => ?_⟩
      obtain ⟨ad, n, c, e1, g1, g2, g3, g4⟩ := VR.sl (hon x hox _ hx)
      have hb := hr m m.w _ _ (opt_rel hon hol hlo) (opt_rel hon hoh hhi) true n c g1 (by omega)
      refine ⟨.slice (if c = a then ad else ad.map (·.add (a * (cx.ty e).size))) (b - a) (c - a), ?_, ?_⟩
      · simp only [execOp, ho, e1, Go.Instr.sliceAt, Sem.run_bind, run_underlying hu, Result.andThen_ok, Go.Instr.slice, Option.map_none]
        simp [run_underlying hu, hb, hz]
      · simp only [VR, Ty.isAgg, CR, ret]
        refine ⟨_, _, _, rfl, (length_cut (α := s.El) l a b h2).symm, by omega, by unfold LIM at *; omega, fun i hi => ?_⟩
        obtain ⟨bb, of, ds, q0, q1, q2, q3, q4⟩ := g4 (a + i) (by omega)
        refine ⟨bb, of + a * s.cells, ds, ?_, q1, q2, ?_, ?_⟩
        · rw [if_neg (by omega), q0]; simp [add_off, hsz]
        · rw [Nat.add_assoc, ← Nat.add_mul]; exact q3
        · rw [getD_cut (α := s.El) l a b i _ hi]
          exact q4
    · rename_i s p _
      obtain ⟨hsz, h⟩ := gd_true h
      simp only [decide_eq_true_eq] at hsz
      split at h
      · rename_i t0 l fz hob
        split at h
        · refine ⟨_, h, Good.pure fun m ac hs hon _ hrd => ?_⟩
          have hv := hon x hox _ hx
          have hlo' : lo = none := by cases lo <;> simp_all [OpO]
          have hhi' : hi = none := by cases hi <;> simp_all [OpO]
          subst hlo'; subst hhi'
          have hv2 := VR.rf hv
          simp only [CR] at hv2
          obtain ⟨ad, n, c, e1, g1, _⟩ := hv2
          simp only [List.cons.injEq, and_true] at e1
          refine ⟨_, ?_, hv⟩
          simp only [execOp, ho, e1, Go.Instr.sliceAt, Sem.run_bind, run_underlying hu, Result.andThen_ok, Go.Instr.slice, Option.map_none]
          simp [run_underlying hu, hz, Go.Instr.sliceBounds, add_off, Addr.add]
        · obtain ⟨a, b, h, h1, h2, _, _, hr⟩ := bnds_run (P := P) h
          refine ⟨_, h, Good.pure fun m ac hs hon _ hrd => ?_⟩
          have hv := VR.rf (hon x hox _ hx)
          have hrd := (hrd p.1 (by simp)).2
          simp only [CR] at hv
          obtain ⟨ad, n, c, e1, g1, g2, g3, g4⟩ := hv
          simp only [List.cons.injEq, and_true] at e1
          rw [hrd, hob] at g4
          simp only at g4
          obtain ⟨rfl, g4⟩ := g4
          have key : ∃ off, off = rfOff p.2 ∧ n = rfLen l.length p.2 ∧ off + n ≤ l.length ∧ l.length ≤ off + c ∧
              (c = 0 ∨ ∃ b base cap, m.ρ p.1 = some (b, base, cap) ∧ ad = some ⟨b, base + off * t0.cells, none⟩ ∧ off + c ≤ cap) := by
            cases hp : p.2 with
            | none =>
              rw [hp] at g4
              obtain ⟨q1, q2⟩ := g4
              refine ⟨0, rfl, q1, by omega, by omega, ?_⟩
              simpa using q2
            | some q =>
              obtain ⟨off, len⟩ := q
              rw [hp] at g4
              obtain ⟨q1, q2, q3, q4⟩ := g4
              exact ⟨off, rfl, q1, by omega, q3, q4⟩
          obtain ⟨off, hoff, hn, k1, k2, k3⟩ := key
          rw [← hn] at h2
          have hb := hr m m.w _ _ (opt_rel hon hol hlo) (opt_rel hon hoh hhi) true n c hn (by omega)
          refine ⟨.slice (if c = a then ad else ad.map (·.add (a * (cx.ty e).size))) (b - a) (c - a), ?_, ?_⟩
          · simp only [execOp, ho, e1, Go.Instr.sliceAt, Sem.run_bind, run_underlying hu, Result.andThen_ok, Go.Instr.slice, Option.map_none]
            simp [run_underlying hu, hb, hz]
          · simp only [VR, Ty.isAgg, CR]
            refine ⟨_, _, _, rfl, by omega, by unfold LIM at *; omega, g3, ?_⟩
            rw [hrd, hob]
            refine ⟨rfl, rfl, by rw [← hoff]; omega, by rw [← hoff]; omega, ?_⟩
            by_cases hca : c = a
            · left; omega
            · right
              rcases k3 with k3 | ⟨bb, base, cap, r1, r2, r3⟩
              · omega
              · refine ⟨bb, base, cap, r1, ?_, by rw [← hoff]; omega⟩
                rw [if_neg hca, r2, ← hoff, ← hsz]; simp [add_off, Nat.add_mul, Nat.add_assoc]
      · exact h.elim
    · exact h.elim
  · rename_i a hk; exact absurd hk (hna a)
  · exact h.elim

end
end Go.Abs
