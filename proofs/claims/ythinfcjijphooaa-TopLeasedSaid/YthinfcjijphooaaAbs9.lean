/- Indexes into values, lengths, least and greatest, conversions that read, functions as values. -/
import Derived.Test.YthinfcjijphooaaAbs8
namespace Go.Abs
set_option linter.unusedVariables false
set_option linter.unusedSimpArgs false
open Go

section
variable {P : Program} {cx : Ctx} {o : Oper} {env : List V} {H : List Obj} {id : Nat} {K : Eff → Prop}

theorem strOf_getD (s : ByteArray) (i : Nat) (h : i < s.data.toList.length) : ∃ b, s[i]? = some b ∧ (strOf s).getD i 0 = (b.toNat : Int) := by
  have h' : i < s.data.size := by simpa using h
  refine ⟨s.data[i], ?_, ?_⟩
  · have : i < s.size := h'
    simp [this]; rfl
  · rw [strOf, List.getD_eq_getElem?_getD, List.getElem?_map, Array.getElem?_toList, Array.getElem?_eq_getElem h']; rfl

theorem inK_byte (b : UInt8) : inK .u8 (b.toNat : Int) = true := by
  have := b.toNat_lt
  rw [inK_iff]; simp [IntKind.min, IntKind.max, IntKind.signed, IntKind.bits]; omega

theorem inK_len {n : Nat} (h : n ≤ LIM) : inK .i64 (n : Int) = true := by
  rw [inK_iff]; simp [IntKind.min, IntKind.max, IntKind.signed, IntKind.bits]; unfold LIM at h; omega

theorem fine_index (hcx : CxOk P cx) {t : Nat} {x i : Operand} (ho : o.op = .index t x i) (h : evC cx env H id (.index t x i) K) : Fine P o env H id K := by
  simp only [evC] at h
  split at h
  · rename_i v nv hx hn
    unfold indexV at h
    split at h
    · exact h.elim
    · rename_i k n hnn
      have hnn := V.int?_some hnn
      subst hnn
      split at h
      · rename_i hk
        have hu := elem_str hcx hk
        split at h
        · obtain ⟨hb, h⟩ := gd_true h
          simp only [Bool.and_eq_true, decide_eq_true_eq] at hb
          refine ⟨_, h, Good.pure fun m a hs hon hlen hrd => ?_⟩
          obtain ⟨s, e, rfl, hl⟩ := VR.str (hon x (by simp [ho, Op.operands]) _ hx)
          obtain ⟨e1, _⟩ := VR.int (hon i (by simp [ho, Op.operands]) _ hn)
          rw [strOf_length] at hb
          obtain ⟨b, h1, h2⟩ := strOf_getD s n.toNat (by omega)
          refine ⟨.int .u8 b.toNat, ?_, ?_⟩
          · simp [execOp, ho, e, e1, Go.Instr.index, asIntOf, run_underlying hu, hb.1, h1]
          · rw [h2]; exact VR.mk_int (inK_byte b)
        · exact h.elim
      · rename_i mm e hk
        have hu := elem_arr hcx hk
        split at h
        · rename_i m' s l
          obtain ⟨h0, h2⟩ := gd_true h
          obtain ⟨hb, h3⟩ := gd_true h2
          obtain ⟨hf, h4⟩ := gd_true h3
          simp only [Bool.and_eq_true, decide_eq_true_eq] at hb h0
          subst h0
          obtain ⟨g1, g2, _⟩ := fits_run hcx hf
          refine ⟨_, h4, Good.pure fun m a hs hon hlen hrd => ?_⟩
          have hv := hon x (by simp [ho, Op.operands]) _ hx
          obtain ⟨e1, _⟩ := VR.int (hon i (by simp [ho, Op.operands]) _ hn)
          simp only [VR, Ty.isAgg, CR] at hv
          obtain ⟨cs, e2, q1, css, q2, q3, q4⟩ := hv
          obtain ⟨p, q, r1, r2⟩ := flatten_split (css := css) (i := n.toNat) (k := s.cells) (by omega) (fun j hj => (q4 j (by omega)).1)
          obtain ⟨v', r3, r4⟩ := run_part_cells (P := P) (w := m.w) (off := n.toNat * s.cells) g1 g2 (by rw [q2]; exact r1) r2 (q4 n.toNat (by omega)).1 (q4 n.toNat (by omega)).2
          refine ⟨v', ?_, r4⟩
          simp [execOp, ho, e1, e2, Go.Instr.index, asIntOf, run_underlying hu, hb.1, hb.2, g2, r3]
        · exact h.elim
      · exact h.elim
  · exact h.elim

theorem opnds_some {xs : List Operand} {vs : List V} (h : opnds env xs = some vs) : xs.length = vs.length ∧ ∀ (j : Nat) (x : Operand) (v : V), xs[j]? = some x → vs[j]? = some v → opnd env x = some v := by
  induction xs generalizing vs with
  | nil => simp [opnds] at h; subst h; simp
  | cons x xs ih =>
    simp only [opnds] at h
    split at h
    · rename_i v l h1 h2
      simp only [Option.some.injEq] at h; subst h
      obtain ⟨i1, i2⟩ := ih h2
      refine ⟨by simp [i1], fun j y u hy hu => ?_⟩
      cases j with
      | zero => simp at hy hu; subst hy; subst hu; exact h1
      | succ j => simp at hy hu; exact i2 j y u hy hu
    · cases h

theorem lenV_fine (hcx : CxOk P cx) {t : Nat} {x : V} (h : lenV cx H t x K) : ∃ e, K e ∧ e.ups = [] ∧ ∀ (m : M) (v : Value), VR m v x → (∀ i ∈ e.rd, i < H.length ∧ m.H.getD i .none = H.getD i .none) →
    ∀ ty : TypeId, ∃ u, (Go.Builtin.len_ #[t] ty #[v]).run P m.w = .ok u m.w ∧ VR m u e.v := by
  unfold lenV at h
  split at h
  · rename_i hk
    have hu := elem_str hcx hk
    split at h
    · refine ⟨_, h, rfl, fun m v hv _ ty => ?_⟩
      obtain ⟨s, rfl, rfl, hl⟩ := VR.str hv
      refine ⟨.int .i64 s.size, by simp [Go.Builtin.len_, run_underlying hu, goInt], ?_⟩
      rw [show (List.length (strOf s) : Int) = (s.size : Int) by rw [strOf_length, show s.size = s.data.toList.length from Array.length_toList.symm]]
      exact VR.mk_int (inK_len (by rw [show s.size = s.data.toList.length from Array.length_toList.symm]; exact hl))
    · exact h.elim
  · rename_i n e hk
    have hu := elem_arr hcx hk
    obtain ⟨h0, h⟩ := gd_true h
    simp only [decide_eq_true_eq] at h0
    refine ⟨_, h, rfl, fun m v hv _ ty => ⟨.int .i64 n, by simp [Go.Builtin.len_, run_underlying hu, goInt], VR.mk_int (inK_len h0)⟩⟩
  · rename_i e hk
    have hu := elem_slice hcx hk
    split at h
    · refine ⟨_, h, rfl, fun m v hv _ ty => ?_⟩
      cases VR.nilS hv
      exact ⟨.int .i64 0, by simp [Go.Builtin.len_, run_underlying hu, goInt], VR.mk_int (by decide)⟩
    · refine ⟨_, h, rfl, fun m v hv _ ty => ?_⟩
      obtain ⟨a, n, c, rfl, h1, _, h2, _⟩ := VR.sl hv
      exact ⟨.int .i64 n, by simp [Go.Builtin.len_, run_underlying hu, goInt], by rw [← h1]; exact VR.mk_int (inK_len h2)⟩
    · rename_i s p
      split at h
      · rename_i t0 l fz hob
        refine ⟨_, h, rfl, fun m v hv hrd ty => ?_⟩
        have hrd := (hrd p.1 (by simp)).2
        have hv := VR.rf hv
        simp only [CR] at hv
        obtain ⟨ad, n, c, e1, g1, g2, g3, g4⟩ := hv
        simp only [List.cons.injEq, and_true] at e1
        subst e1
        rw [hrd, hob] at g4
        have : n = rfLen l.length p.2 := by
          obtain ⟨_, g4⟩ := g4
          cases hp : p.2 with
          | none => rw [hp] at g4; exact g4.1
          | some q => rw [hp] at g4; exact g4.1
        exact ⟨.int .i64 n, by simp [Go.Builtin.len_, run_underlying hu, goInt], by rw [← this]; exact VR.mk_int (inK_len g2)⟩
      · exact h.elim
    · exact h.elim
  · exact h.elim

theorem Good.pureB {e : Eff} (hu : e.ups = [])
    (h : ∀ (m : M) (a : Act), StR m → OpsOn o m env a → m.H.length = H.length → (∀ i ∈ e.rd, i < H.length ∧ m.H.getD i .none = H.getD i .none) → ∃ v, (execOp a.eval o).run P m.w = .ok (.value v) m.w ∧ VR m v e.v) :
    Good P o env H id e := fun m a hs ho hl hrd _ => by
  obtain ⟨v, hv, hr⟩ := h m a hs ho hl hrd
  exact Gives.value hv ⟨m, rfl, by rw [hu]; rfl, hs, M.le.refl m, hr⟩

theorem size_one {α : Type} {a : Array α} {l : List α} (h : a.toList = l) : a = l.toArray := by rw [← h]

theorem fine_len (hcx : CxOk P cx) {c : Go.Call} (ho : o.op = .call c) (hb : c.callee = .builtin .len) {t : TypeId} {x : V} (hts : c.argTypes = #[t]) (hargs : opnds env c.args.toList = some [x]) (h : lenV cx H t x K) : Fine P o env H id K := by
  obtain ⟨e, hK, hup, hr⟩ := lenV_fine (P := P) hcx h
  refine ⟨e, hK, Good.pureB hup fun m a hs hon hlen hrd => ?_⟩
  obtain ⟨hl, hat⟩ := opnds_some hargs
  obtain ⟨y, hy⟩ : ∃ y, c.args = #[y] := by
    have : c.args.size = 1 := by simpa using hl
    exact ⟨c.args[0], by apply Array.ext <;> simp [this]; intro i hi; obtain rfl : i = 0 := by omega
                         rfl⟩
  have hx := hat 0 y x (by simp [hy]) rfl
  obtain ⟨u, r1, r2⟩ := hr m (a.eval y) (hon y (by simp [ho, Op.operands, Call.operands, hb, hy]) _ hx) hrd o.type
  refine ⟨u, ?_, r2⟩
  simp only [execOp, ho, resolve, hb, hy, hts]
  simp [invoke, builtin, r1]

end
end Go.Abs
