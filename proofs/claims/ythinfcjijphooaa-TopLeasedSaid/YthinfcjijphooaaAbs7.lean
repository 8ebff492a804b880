/- Places, slices, lengths, conversions. -/
import Derived.Test.YthinfcjijphooaaAbs6
namespace Go.Abs
set_option linter.unusedVariables false
set_option linter.unusedSimpArgs false
open Go

section
variable {P : Program} {cx : Ctx} {o : Oper} {env : List V} {H : List Obj} {id : Nat} {K : Eff → Prop}

theorem add_off (b o n : Nat) : Addr.add ⟨b, o, none⟩ n = ⟨b, o + n, none⟩ := by
  unfold Addr.add; split
  · rename_i h; subst h; rfl
  · rfl

theorem elem_slice (hcx : CxOk P cx) {t e : Nat} (hk : (cx.ty t).kind = .slice e) : P.underlying t = some (.slice e) := by
  have := (hcx t (by rw [hk]; simp)).kind; rw [hk] at this; exact this
theorem elem_arr (hcx : CxOk P cx) {t e n : Nat} (hk : (cx.ty t).kind = .arr n e) : P.underlying t = some (.array n e) := by
  have := (hcx t (by rw [hk]; simp)).kind; rw [hk] at this; exact this
theorem elem_str (hcx : CxOk P cx) {t : Nat} (hk : (cx.ty t).kind = .str) : P.underlying t = some .string := by
  have := (hcx t (by rw [hk]; simp)).kind; rw [hk] at this; exact this

theorem okT_append : ∀ {r : List Stp} {t u : Ty} {s : Stp}, okT t r → tyAt t r = some u → okT u [s] → okT t (r ++ [s])
  | [], t, u, s, _, h, g => by simp only [tyAt, Option.some.injEq] at h; subst h; exact g
  | .fld off j :: r, t, u, s, h, h1, g => by
    simp only [okT] at h
    simp only [tyAt] at h1
    cases hc : compT t j with
    | none => rw [hc] at h; exact h.2.elim
    | some q =>
      rw [hc] at h h1
      simp only [List.cons_append, okT, hc]
      exact ⟨h.1, okT_append h.2 h1 g⟩
  | .idx sz i :: r, t, u, s, h, h1, g => by
    cases t <;> simp only [okT] at h
    simp only [tyAt] at h1
    simp only [List.cons_append, okT]
    exact ⟨h.1, h.2.1, okT_append h.2.2 h1 g⟩

theorem okO_append {ob : Obj} {r : List Stp} {u : Ty} {s : Stp} (h : okO ob r) (h1 : tyAtO ob r = some u) (g : okT u [s]) : okO ob (r ++ [s]) := by
  cases ob with
  | none => simp [tyAtO] at h1
  | free => simp [tyAtO] at h1
  | box v fz => exact okT_append h h1 g
  | row t l fz =>
    cases r with
    | nil => simp [tyAtO] at h1
    | cons q r =>
      cases q with
      | fld _ _ => simp [tyAtO] at h1
      | idx sz i =>
        simp only [tyAtO] at h1
        simp only [okO] at h
        simp only [List.cons_append, okO]
        exact ⟨h.1, h.2.1, okT_append h.2.2 h1 g⟩

theorem pathOff_append (r : List Stp) (s : Stp) : pathOff (r ++ [s]) = pathOff r + pathOff [s] := by
  induction r with
  | nil => simp [pathOff]
  | cons q r ih => cases q <;> simp [pathOff] at ih ⊢ <;> omega

theorem VR.mk_pt {m : M} {b o i : Nat} {path : List Stp} (hi : i < m.H.length) (h : m.H.getD i .none = .none ∨ (okO (m.H.getD i .none) path ∧ ∃ base cap, m.ρ i = some (b, base, cap) ∧ o = base + pathOff path)) :
    VR m (.pointer (some ⟨b, o, none⟩)) ⟨.pt, (i, path)⟩ := by
  simp only [VR, Ty.isAgg, CR]; exact ⟨b, o, rfl, hi, h⟩

theorem VR.mk_ip {m : M} {b o : Nat} {ds : List Value} {t : Ty} {x : t.El} (h1 : m.S b) (h2 : ds.length = t.cells) (h3 : At m.w b o ds) (h4 : CR m false t ds x) :
    VR m (.pointer (some ⟨b, o, none⟩)) ⟨.ip t, x⟩ := by
  simp only [VR, Ty.isAgg, CR]; exact ⟨b, o, ds, rfl, h1, h2, h3, h4⟩

theorem VR.rf {m : M} {v : Value} {t : Ty} {x : (Ty.rf t).El} (h : VR m v ⟨.rf t, x⟩) : CR m false (.rf t) [v] x := by
  simpa only [VR, Ty.isAgg] using h
theorem VR.sl {m : M} {v : Value} {t : Ty} {x : (Ty.sl t).El} (h : VR m v ⟨.sl t, x⟩) : ∃ a n c, v = .slice a n c ∧ n = List.length (x : List t.El) ∧ n ≤ c ∧ n ≤ LIM ∧
      ∀ i, i < n → ∃ b o ds, a = some ⟨b, o, none⟩ ∧ m.S b ∧ ds.length = t.cells ∧ At m.w b (o + i * t.cells) ds ∧ CR m false t ds (List.getD (x : List t.El) i t.dflt) := by
  simp only [VR, Ty.isAgg, CR] at h; obtain ⟨a, n, c, h, g⟩ := h; simp only [List.cons.injEq, and_true] at h; exact ⟨a, n, c, h, g⟩

theorem known_size (hcx : CxOk P cx) {t : Nat} (h : (cx.ty t).kind.known = true) (w : World) : (sizeOf t).run P w = .ok (cx.ty t).size w := (hcx t (known_ne h)).size w

theorem fine_fieldAddr (hcx : CxOk P cx) {t j : Nat} {x : Operand} (ho : o.op = .fieldAddr t x j) (h : evC cx env H id (.fieldAddr t x j) K) : Fine P o env H id K := by
  simp only [evC] at h
  split at h
  · rename_i fs hk
    obtain ⟨fields, hu1, hu2⟩ := struct_fields hcx hk
    split at h
    · rename_i p hx
      split at h
      · rename_i s hs0
        obtain ⟨h0, h⟩ := gd_true h
        simp only [Bool.and_eq_true, decide_eq_true_eq, Bool.not_eq_true', decide_eq_false_iff_not] at h0
        obtain ⟨⟨⟨h1, h2⟩, h3⟩, h4, h5⟩ := h0
        obtain ⟨f, hf1, hf2⟩ := field_at hu2 h2
        rw [hf2] at h1 h4 h5
        refine ⟨_, h, Good.pure fun m a hs hon hlen hrd => ?_⟩
        have hv := hon x (by simp [ho, Op.operands]) _ hx
        obtain ⟨b, of, e, hi, hor⟩ := VR.pt hv
        have hrd := (hrd p.1 (by simp)).2
        rw [← hrd] at hs0
        refine ⟨.pointer (some ⟨b, of + f.offset, none⟩), ?_, ?_⟩
        · simp [execOp, ho, Go.Instr.fieldAt, run_underlying hu1, hf1, Go.Instr.sureAddr, e, fieldPlace, known_size hcx h4, h5, add_off]
        · refine VR.mk_pt hi (hor.imp (fun h => h) fun ⟨hok, base, cap, hρ, ho'⟩ => ⟨okO_append hok hs0 ?_, base, cap, hρ, ?_⟩)
          · rw [hf2]; simp only [okT]
            refine ⟨h1, ?_⟩
            cases hc : compT s j with
            | none => rw [hc] at h3; simp at h3
            | some q => trivial
          · rw [pathOff_append, hf2]; simp [pathOff, ho']; omega
      · exact h.elim
    · rename_i s v hx
      obtain ⟨h0, h⟩ := gd_true h
      obtain ⟨u, hu, h⟩ := optK_some h
      simp only [Bool.and_eq_true, decide_eq_true_eq, Bool.not_eq_true', decide_eq_false_iff_not] at h0
      obtain ⟨⟨h1, h2⟩, h4, h5⟩ := h0
      obtain ⟨f, hf1, hf2⟩ := field_at hu2 h2
      rw [hf2] at h1 h4 h5
      refine ⟨_, h, Good.pure fun m a hs hon hlen hrd => ?_⟩
      have hv := hon x (by simp [ho, Op.operands]) _ hx
      obtain ⟨b, of, ds, e, g1, g2, g3, g4⟩ := VR.ip hv
      obtain ⟨p, c, q, rfl, e2, e3, e4, _⟩ := compV_cells g4 hu
      refine ⟨.pointer (some ⟨b, of + f.offset, none⟩), ?_, ?_⟩
      · simp [execOp, ho, Go.Instr.fieldAt, run_underlying hu1, hf1, Go.Instr.sureAddr, e, fieldPlace, known_size hcx h4, h5, add_off]
      · have h1 : offOf s j = f.offset := h1
        rw [← h1, ← e2]; exact VR.mk_ip g1 e3 g3.part e4
    · exact h.elim
  · exact h.elim

theorem getD_flat {css : List (List Value)} {k i : Nat} {b o : Nat} {w : World} (hat : At w b o css.flatten) (hi : i < css.length) (hk : ∀ j, j < css.length → (css.getD j []).length = k) :
    At w b (o + i * k) (css.getD i []) := by
  obtain ⟨p, q, e1, e2⟩ := flatten_split hi hk
  rw [e1] at hat
  rw [← e2]; exact hat.part

theorem run_indexAt_sl {w : World} {t e : Nat} {b of len cap sz : Nat} {k : IntKind} {n : Int} (hu : P.underlying t = some (.slice e)) (hz : ∀ w, (sizeOf e).run P w = .ok sz w)
    (h0 : 0 ≤ n) (h1 : n < len) : (Go.Instr.indexAt t (.slice (some ⟨b, of, none⟩) len cap) (.int k n)).run P w = .ok (.pointer (some ⟨b, of + n.toNat * sz, none⟩)) w := by
  have : ¬ (len ≤ 1 ∧ False) := by simp
  simp [Go.Instr.indexAt, asIntOf, run_underlying hu, h0, h1, hz, add_off]

theorem run_indexAt_ar {w : World} {t e len : Nat} {b of sz : Nat} {k : IntKind} {n : Int} (hu : P.underlying t = some (.array len e)) (hz : ∀ w, (sizeOf e).run P w = .ok sz w)
    (h0 : 0 ≤ n) (h1 : n < len) : (Go.Instr.indexAt t (.pointer (some ⟨b, of, none⟩)) (.int k n)).run P w = .ok (.pointer (some ⟨b, of + n.toNat * sz, none⟩)) w := by
  simp [Go.Instr.indexAt, Go.Instr.sureAddr, asIntOf, run_underlying hu, h0, h1, hz, add_off]

theorem fine_indexAddr (hcx : CxOk P cx) {t : Nat} {x i : Operand} (ho : o.op = .indexAddr t x i) (h : evC cx env H id (.indexAddr t x i) K) : Fine P o env H id K := by
  simp only [evC] at h
  split at h
  · rename_i v nv hx hn
    unfold indexAddrV at h
    simp only at h
    split at h
    · exact h.elim
    · rename_i k n hnn
      have hnn := V.int?_some hnn
      subst hnn
      split at h
      · rename_i e hk
        obtain ⟨hkn, h⟩ := gd_true h
        have hel : cx.elem t = e := by simp [Ctx.elem, hk]
        rw [hel] at h hkn
        have hz := known_size hcx hkn
        have hu := elem_slice hcx hk
        split at h
        · rename_i s l
          obtain ⟨hsz, h⟩ := gd_true h
          obtain ⟨hb, h⟩ := gd_true h
          simp only [Bool.and_eq_true, decide_eq_true_eq] at hsz hb
          refine ⟨_, h, Good.pure fun m a hs hon hlen hrd => ?_⟩
          have hv := hon x (by simp [ho, Op.operands]) _ hx
          obtain ⟨e1, _⟩ := VR.int (hon i (by simp [ho, Op.operands]) _ hn)
          obtain ⟨a', len, c, e2, g1, g2, g3, g4⟩ := VR.sl hv
          obtain ⟨b, of, ds, rfl, q1, q2, q3, q4⟩ := g4 n.toNat (by omega)
          refine ⟨.pointer (some ⟨b, of + n.toNat * (cx.ty e).size, none⟩), ?_, ?_⟩
          · simp only [execOp, ho, e1, e2]
            rw [Sem.run_bind, run_indexAt_sl hu hz hb.1 (by omega)]; simp
          · rw [← hsz]; exact VR.mk_ip q1 q2 q3 q4
        · rename_i s p _
          split at h
          · rename_i t0 l fz hob
            obtain ⟨hsz, h⟩ := gd_true h
            simp only [decide_eq_true_eq] at hsz
            have key : ∀ (off : Nat), (∀ (m : M) (vv : Value), VR m vv ⟨.rf s, p⟩ → m.H.getD p.1 .none = H.getD p.1 .none → 0 ≤ n → (match p.2 with | none => n < l.length | some (_, len) => n < len) →
                off = (match p.2 with | none => 0 | some (off, _) => off) → ∃ b base cap len c, vv = .slice (some ⟨b, base + off * s.cells, none⟩) len c ∧ n < len ∧ m.ρ p.1 = some (b, base, cap) ∧ off + n.toNat < l.length ∧ s = t0 ∧ p.1 < m.H.length) := by
              intro off m vv hv hrd h0 h1 hoff
              have hv := VR.rf hv
              simp only [CR] at hv
              obtain ⟨a', len, c, e2, g1, g2, g3, g4⟩ := hv
              simp only [List.cons.injEq, and_true] at e2
              rw [hrd, hob] at g4
              simp only at g4
              obtain ⟨rfl, g4⟩ := g4
              cases hp : p.2 with
              | none =>
                rw [hp] at g4 h1 hoff
                simp only at g4 h1 hoff
                obtain ⟨rfl, g4⟩ := g4
                rcases g4 with rfl | ⟨b, base, cap, q1, rfl, q2⟩
                · omega
                · subst hoff
                  exact ⟨b, base, cap, l.length, c, by simpa using e2, h1, q1, by omega, rfl, g3⟩
              | some q =>
                obtain ⟨off', len'⟩ := q
                rw [hp] at g4 h1 hoff
                simp only at g4 h1 hoff
                obtain ⟨rfl, g5, g6, g4⟩ := g4
                rcases g4 with rfl | ⟨b, base, cap, q1, rfl, q2⟩
                · omega
                · subst hoff
                  exact ⟨b, base, cap, len, c, e2, h1, q1, by omega, rfl, g3⟩
            split at h
            · rename_i hp
              obtain ⟨hb, h⟩ := gd_true h
              simp only [Bool.and_eq_true, decide_eq_true_eq] at hb
              refine ⟨_, h, Good.pure fun m a hs hon hlen hrd => ?_⟩
              have hv := hon x (by simp [ho, Op.operands]) _ hx
              obtain ⟨e1, _⟩ := VR.int (hon i (by simp [ho, Op.operands]) _ hn)
              have hrd := (hrd p.1 (by simp)).2
              obtain ⟨b, base, cap, len, c, e2, q1, q2, q3, rfl, q4⟩ := key 0 m _ hv hrd hb.1 (by rw [hp]; exact hb.2) (by rw [hp])
              refine ⟨.pointer (some ⟨b, base + 0 * s.cells + n.toNat * (cx.ty e).size, none⟩), ?_, ?_⟩
              · simp only [execOp, ho, e1, e2]
                rw [Sem.run_bind, run_indexAt_sl hu hz hb.1 q1]; simp
              · refine VR.mk_pt q4 (.inr ⟨?_, base, cap, q2, by simp [pathOff]⟩)
                rw [hrd, hob]; simp only [okO, okT]
                exact ⟨hsz, by omega, trivial⟩
            · rename_i off len hp
              obtain ⟨hb, h⟩ := gd_true h
              simp only [Bool.and_eq_true, decide_eq_true_eq] at hb
              refine ⟨_, h, Good.pure fun m a hs hon hlen hrd => ?_⟩
              have hv := hon x (by simp [ho, Op.operands]) _ hx
              obtain ⟨e1, _⟩ := VR.int (hon i (by simp [ho, Op.operands]) _ hn)
              have hrd := (hrd p.1 (by simp)).2
              obtain ⟨b, base, cap, len', c, e2, q1, q2, q3, rfl, q4⟩ := key off m _ hv hrd hb.1 (by rw [hp]; exact hb.2) (by rw [hp])
              refine ⟨.pointer (some ⟨b, base + off * s.cells + n.toNat * (cx.ty e).size, none⟩), ?_, ?_⟩
              · simp only [execOp, ho, e1, e2]
                rw [Sem.run_bind, run_indexAt_sl hu hz hb.1 q1]; simp
              · refine VR.mk_pt q4 (.inr ⟨?_, base, cap, q2, by simp [pathOff, hsz, Nat.add_mul, Nat.add_assoc]⟩)
                rw [hrd, hob]; simp only [okO, okT]
                exact ⟨hsz, by omega, trivial⟩
          · exact h.elim
        · exact h.elim
      · rename_i mm e hk
        obtain ⟨hkn, h⟩ := gd_true h
        have hel : cx.elem t = e := by simp [Ctx.elem, hk]
        rw [hel] at h hkn
        have hz := known_size hcx hkn
        have hu := elem_arr hcx hk
        split at h
        · rename_i p _
          split at h
          · rename_i m' s hty
            obtain ⟨hsz, h⟩ := gd_true h
            obtain ⟨hb, h⟩ := gd_true h
            simp only [Bool.and_eq_true, decide_eq_true_eq] at hsz hb
            refine ⟨_, h, Good.pure fun m a hs hon hlen hrd => ?_⟩
            have hv := hon x (by simp [ho, Op.operands]) _ hx
            obtain ⟨e1, _⟩ := VR.int (hon i (by simp [ho, Op.operands]) _ hn)
            obtain ⟨b, of, e2, hi, hor⟩ := VR.pt hv
            have hrd := (hrd p.1 (by simp)).2
            rw [← hrd] at hty
            refine ⟨.pointer (some ⟨b, of + n.toNat * (cx.ty e).size, none⟩), ?_, ?_⟩
            · simp only [execOp, ho, e1, e2]
              rw [Sem.run_bind, run_indexAt_ar hu hz hb.1 hb.2]; simp
            · refine VR.mk_pt hi (hor.imp (fun h => h) fun ⟨hok, base, cap, hρ, ho'⟩ => ⟨okO_append hok hty ?_, base, cap, hρ, ?_⟩)
              · simp only [okT]; exact ⟨hsz.2, by omega, trivial⟩
              · rw [pathOff_append, ho']; simp [pathOff, Nat.add_assoc]
          · split at h
            · rename_i s l fz hob hp
              obtain ⟨hsz, h⟩ := gd_true h
              obtain ⟨hb, h⟩ := gd_true h
              simp only [Bool.and_eq_true, decide_eq_true_eq] at hsz hb
              refine ⟨_, h, Good.pure fun m a hs hon hlen hrd => ?_⟩
              have hv := hon x (by simp [ho, Op.operands]) _ hx
              obtain ⟨e1, _⟩ := VR.int (hon i (by simp [ho, Op.operands]) _ hn)
              obtain ⟨b, of, e2, hi, hor⟩ := VR.pt hv
              have hrd := (hrd p.1 (by simp)).2
              refine ⟨.pointer (some ⟨b, of + n.toNat * (cx.ty e).size, none⟩), ?_, ?_⟩
              · simp only [execOp, ho, e1, e2]
                rw [Sem.run_bind, run_indexAt_ar hu hz hb.1.1 hb.1.2]; simp
              · refine VR.mk_pt hi (hor.imp (fun h => h) fun ⟨hok, base, cap, hρ, ho'⟩ => ⟨?_, base, cap, hρ, ?_⟩)
                · rw [hrd, hob]; simp only [okO, okT]; exact ⟨hsz, by omega, trivial⟩
                · rw [ho', hp]; simp [pathOff]
            · exact h.elim
        · rename_i m' s l
          obtain ⟨hsz, h⟩ := gd_true h
          obtain ⟨hb, h⟩ := gd_true h
          simp only [Bool.and_eq_true, decide_eq_true_eq] at hsz hb
          refine ⟨_, h, Good.pure fun m a hs hon hlen hrd => ?_⟩
          have hv := hon x (by simp [ho, Op.operands]) _ hx
          obtain ⟨e1, _⟩ := VR.int (hon i (by simp [ho, Op.operands]) _ hn)
          obtain ⟨b, of, ds, e2, g1, g2, g3, g4⟩ := VR.ip hv
          simp only [CR] at g4
          obtain ⟨q1, css, rfl, q2, q3⟩ := g4
          refine ⟨.pointer (some ⟨b, of + n.toNat * (cx.ty e).size, none⟩), ?_, ?_⟩
          · simp only [execOp, ho, e1, e2]
            rw [Sem.run_bind, run_indexAt_ar hu hz hb.1 hb.2]; simp
          · rw [← hsz.2]
            exact VR.mk_ip g1 (q3 n.toNat (by omega)).1 (getD_flat g3 (by omega) (fun j hj => (q3 j (by omega)).1)) (q3 n.toNat (by omega)).2
        · exact h.elim
      · exact h.elim
  · exact h.elim

end
end Go.Abs
