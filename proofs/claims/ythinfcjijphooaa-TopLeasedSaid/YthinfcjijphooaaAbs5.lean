/- The operators are told rightly. -/
import Derived.Laws.Cover1
import Derived.Test.YthinfcjijphooaaAbs4
namespace Go.Abs
set_option linter.unusedVariables false
set_option linter.unusedSimpArgs false
open Go

theorem run_guarded {P : Program} {w : World} {op : BinOp} {t : TypeId} {x y : Operand} {va vb v : Value} (hg : (eqGuard op t x y va vb).run P w = .ok () w)
    (h : (binOp op t va vb).run P w = .ok v w) : ((do eqGuard op t x y va vb; binOp op t va vb) : Sem Value).run P w = .ok v w := by
  simp [hg, h]

theorem shift_int {P : Program} {w : World} {op : BinOp} {t : TypeId} {k k' : IntKind} {x y : Int} (hs : isShift op = true) (hy : 0 ≤ y) :
    (binOp op t (.int k x) (.int k' y)).run P w = .ok (.int k (shI op k x y)) w := by
  cases op <;> simp [isShift] at hs
  · rw [binOp_shl, shift_shl_any _ _ _ _ hy]; rfl
  · rw [binOp_shr, shift_shr_any _ _ _ _ hy]; rfl

theorem inK_shl (k : IntKind) (x y : Int) : inK k (shlI k x y) = true := inK_wrap _ _

theorem eqOp_some {op : BinOp} {b r : Bool} (h : eqOp op b = some r) : (op = .eql ∧ r = b) ∨ (op = .neq ∧ r = !b) := by
  cases op <;> simp [eqOp] at h
  · exact .inl ⟨rfl, h.symm⟩
  · exact .inr ⟨rfl, by cases b <;> cases r <;> simp_all⟩

theorem run_eq_other {P : Program} {w : World} {op : BinOp} {t : TypeId} {va vb : Value} {b r : Bool} (ho : eqOp op b = some r) (h : (Go.Op.equal t va vb).run P w = .ok b w)
    (h1 : binOp .eql t va vb = (do pure (.bool (← Go.Op.equal t va vb)))) (h2 : binOp .neq t va vb = (do pure (.bool (!(← Go.Op.equal t va vb))))) : (binOp op t va vb).run P w = .ok (.bool r) w := by
  rcases eqOp_some ho with ⟨rfl, rfl⟩ | ⟨rfl, rfl⟩
  · rw [h1]; simp [h]
  · rw [h2]; simp [h]

theorem as_some {v : V} {t : Ty} {x : t.El} (h : v.as t = some x) : v = ⟨t, x⟩ := by
  obtain ⟨s, y⟩ := v
  unfold V.as at h
  split at h
  · rename_i e
    cases e
    simp only [Option.some.injEq] at h
    rw [← h]
  · cases h

theorem VR.nilS {m : M} {v : Value} {x : Ty.nilS.El} (h : VR m v ⟨.nilS, x⟩) : v = .slice none 0 0 := by simp only [VR, Ty.isAgg, CR] at h; simpa using h
theorem VR.nilP {m : M} {v : Value} {x : Ty.nilP.El} (h : VR m v ⟨.nilP, x⟩) : v = .pointer none := by simp only [VR, Ty.isAgg, CR] at h; simpa using h
theorem VR.nilF {m : M} {v : Value} {x : Ty.nilF.El} (h : VR m v ⟨.nilF, x⟩) : v = .nilFunc := by simp only [VR, Ty.isAgg, CR] at h; simpa using h
theorem VR.fn {m : M} {v : Value} {f : Nat} {c : Ty} {x : (Ty.fn f c).El} (h : VR m v ⟨.fn f c, x⟩) : ∃ vs : Array Value, v = .func (.func f) #[] vs ∧ CR m true c vs.toList x := by
  simp only [VR, Ty.isAgg, CR] at h; obtain ⟨vs, h, g⟩ := h; simp at h; exact ⟨vs, h, g⟩
theorem VR.pt {m : M} {v : Value} {x : Ty.pt.El} (h : VR m v ⟨.pt, x⟩) : ∃ b o, v = .pointer (some ⟨b, o, none⟩) ∧ x.1 < m.H.length ∧
      (m.H.getD x.1 .none = .none ∨ (okO (m.H.getD x.1 .none) x.2 ∧ ∃ base cap, m.ρ x.1 = some (b, base, cap) ∧ o = base + pathOff x.2)) := by
  simp only [VR, Ty.isAgg, CR] at h; obtain ⟨b, o, h, g⟩ := h; simp at h; exact ⟨b, o, h, g⟩
theorem VR.ip {m : M} {v : Value} {t : Ty} {x : (Ty.ip t).El} (h : VR m v ⟨.ip t, x⟩) : ∃ b o ds, v = .pointer (some ⟨b, o, none⟩) ∧ m.S b ∧ ds.length = t.cells ∧ At m.w b o ds ∧ CR m false t ds x := by
  simp only [VR, Ty.isAgg, CR] at h; obtain ⟨b, o, ds, h, g⟩ := h; simp at h; exact ⟨b, o, ds, h, g⟩

theorem equal_succ (t : TypeId) (x y : Value) : Go.Op.equal t x y = Go.Op.equalIn (9999 + 1) t x y := rfl

theorem nilEq_run {P : Program} {w : World} {m : M} {t : TypeId} {tk : TK} {a b : V} {c : Bool} {va vb : Value} (hk : KOk (P.underlying t) tk) (h : nilEq tk a b = some c)
    (ha : VR m va a) (hb : VR m vb b) : (∀ d, (Go.Op.equalIn (d + 1) t va vb).run P w = .ok c w) ∧ (∀ op x y, eqGuard op t x y va vb = pure ()) ∧
      binOp .eql t va vb = (do pure (.bool (← Go.Op.equal t va vb))) ∧ binOp .neq t va vb = (do pure (.bool (!(← Go.Op.equal t va vb)))) := by
  unfold nilEq at h
  split at h <;> simp at h <;> subst h <;> simp only [KOk] at hk
  case h_1 => cases VR.nilS ha; cases VR.nilS hb; exact ⟨fun d => by simp [Go.Op.equalIn, run_underlying hk], fun op x y => eqGuard_at_slice .., rfl, rfl⟩
  case h_2 => cases VR.nilP ha; cases VR.nilP hb; exact ⟨fun d => by simp [Go.Op.equalIn, run_underlying hk], fun op x y => eqGuard_at_pointer .., rfl, rfl⟩
  case h_3 => cases VR.nilP ha; obtain ⟨b, o, rfl, _⟩ := VR.pt hb; exact ⟨fun d => by simp [Go.Op.equalIn, run_underlying hk], fun op x y => eqGuard_at_pointer .., rfl, rfl⟩
  case h_4 => cases VR.nilP ha; obtain ⟨b, o, _, rfl, _⟩ := VR.ip hb; exact ⟨fun d => by simp [Go.Op.equalIn, run_underlying hk], fun op x y => eqGuard_at_pointer .., rfl, rfl⟩
  case h_5 => cases VR.nilP hb; obtain ⟨b, o, rfl, _⟩ := VR.pt ha; exact ⟨fun d => by simp [Go.Op.equalIn, run_underlying hk], fun op x y => eqGuard_at_pointer .., rfl, rfl⟩
  case h_6 => cases VR.nilP hb; obtain ⟨b, o, _, rfl, _⟩ := VR.ip ha; exact ⟨fun d => by simp [Go.Op.equalIn, run_underlying hk], fun op x y => eqGuard_at_pointer .., rfl, rfl⟩
  case h_7 => obtain ⟨_, _, _, hk⟩ := hk; cases VR.nilF ha; cases VR.nilF hb; exact ⟨fun d => by simp [Go.Op.equalIn, run_underlying hk], fun op x y => eqGuard_at_nilFunc .., rfl, rfl⟩
  case h_8 => obtain ⟨_, _, _, hk⟩ := hk; cases VR.nilF ha; obtain ⟨_, rfl, _⟩ := VR.fn hb; exact ⟨fun d => by simp [Go.Op.equalIn, run_underlying hk], fun op x y => eqGuard_at_nilFunc .., rfl, rfl⟩
  case h_9 => obtain ⟨_, _, _, hk⟩ := hk; cases VR.nilF hb; obtain ⟨_, rfl, _⟩ := VR.fn ha; exact ⟨fun d => by simp [Go.Op.equalIn, run_underlying hk], fun op x y => eqGuard_at_func .., rfl, rfl⟩

theorem cmpS_run {P : Program} {w : World} {op : BinOp} {t : TypeId} {a b : ByteArray} {r : Bool} (h : cmpS op (strOf a) (strOf b) = some r) :
    (binOp op t (.string a) (.string b)).run P w = .ok (.bool r) w := by
  cases op <;> simp only [cmpS, reduceCtorEq] at h <;> injection h with h <;> subst h
  · rw [binOp_string_eql, eq_bytes]; rfl
  · rw [binOp_string_neq, eq_bytes]; rfl
  · rw [binOp_string_lss, lt_bytes]; rfl
  · rw [binOp_string_leq, lt_bytes, eq_bytes]; rfl
  · rw [binOp_string_gtr, lt_bytes, eq_bytes]; rfl
  · rw [binOp_string_geq, lt_bytes]; rfl

theorem binV_sound {P : Program} {cx : Ctx} (hcx : CxOk P cx) {op : BinOp} {t : Nat} {a b : V} {K : V → Prop} (h : binV cx op t a b K) :
    ∃ u, K u ∧ ∀ (m : M) (va vb : Value) (x y : Operand) (w : World), VR m va a → VR m vb b → ∃ v, ((do eqGuard op t x y va vb; binOp op t va vb) : Sem Value).run P w = .ok v w ∧ VR m v u := by
  unfold binV at h
  split at h
  · rename_i k x k' y ha hb
    have ha := V.int?_some ha; have hb := V.int?_some hb
    subst ha; subst hb
    split at h
    · rename_i hs
      obtain ⟨h0, h⟩ := gd_true h
      have h0 : 0 ≤ y := by simpa using h0
      refine ⟨_, h, fun m va vb o1 o2 w hva hvb => ?_⟩
      obtain ⟨rfl, i1⟩ := VR.int hva; obtain ⟨rfl, i2⟩ := VR.int hvb
      refine ⟨_, run_guarded (by rw [eqGuard_at_int]; rfl) (shift_int hs h0), VR.mk_int ?_⟩
      cases op <;> simp [isShift] at hs
      · exact inK_shl _ _ _
      · exact inK_div i1
    · rename_i hs
      split at h
      · rename_i hk
        have hk : k = k' := by simpa using hk
        subst hk
        obtain ⟨u, hu, hr⟩ := run_binI hs h
        refine ⟨u, hu, fun m va vb o1 o2 w hva hvb => ?_⟩
        obtain ⟨rfl, i1⟩ := VR.int hva; obtain ⟨rfl, i2⟩ := VR.int hvb
        obtain ⟨v, hv, hr⟩ := hr P w t i1 i2
        exact ⟨v, run_guarded (by rw [eqGuard_at_int]; rfl) hv, hr m⟩
      · exact h.elim
  split at h
  · rename_i x y ha hb
    have ha := V.str?_some ha; have hb := V.str?_some hb
    subst ha; subst hb
    split at h
    · obtain ⟨h0, h⟩ := gd_true h
      have h0 : x.length + y.length ≤ LIM := by simpa using h0
      refine ⟨_, h, fun m va vb o1 o2 w hva hvb => ?_⟩
      obtain ⟨s, rfl, rfl, l1⟩ := VR.str hva; obtain ⟨s', rfl, rfl, l2⟩ := VR.str hvb
      rw [strOf_length, strOf_length] at h0
      refine ⟨_, run_guarded (by rw [eqGuard_at_string]; rfl) (by
        rw [binOp_string_add, run_string_add_sum]
        unfold LIM at h0
        have e1 : s.size = s.data.toList.length := Array.length_toList.symm
        have e2 : s'.size = s'.data.toList.length := Array.length_toList.symm
        omega), VR.mk_str (strOf_append _ _) (by simpa [ByteArray.data_append] using h0)⟩
    · obtain ⟨r, hr, h⟩ := optK_some h
      refine ⟨_, h, fun m va vb o1 o2 w hva hvb => ?_⟩
      obtain ⟨s, rfl, rfl, l1⟩ := VR.str hva; obtain ⟨s', rfl, rfl, l2⟩ := VR.str hvb
      exact ⟨_, run_guarded (by rw [eqGuard_at_string]; rfl) (cmpS_run hr), VR.mk_bool⟩
  split at h
  · rename_i x y ha hb
    have ha := V.bool?_some ha; have hb := V.bool?_some hb
    subst ha; subst hb
    split at h
    · rename_i hk
      have hT := hcx t (by rw [hk]; simp)
      have hkk := hT.kind
      rw [hk] at hkk; simp only [KOk] at hkk
      obtain ⟨r, hr, h⟩ := optK_some h
      refine ⟨_, h, fun m va vb o1 o2 w hva hvb => ?_⟩
      obtain rfl := VR.bool hva; obtain rfl := VR.bool hvb
      exact ⟨_, run_guarded (by rw [eqGuard_at_bool]; rfl) (run_eq_other hr (by rw [equal_succ]; exact run_equalIn_bool' w 9999 t x y hkk) rfl rfl), VR.mk_bool⟩
    · exact h.elim
  split at h
  · rename_i c hc
    obtain ⟨r, hr, h⟩ := optK_some h
    have hne : (cx.ty t).kind ≠ .other := by intro e; rw [e] at hc; simp [nilEq] at hc
    have hT := hcx t hne
    refine ⟨_, h, fun m va vb o1 o2 w hva hvb => ?_⟩
    obtain ⟨g1, g2, g3, g4⟩ := nilEq_run (w := w) hT.kind hc hva hvb
    exact ⟨_, run_guarded (by rw [g2]; rfl) (run_eq_other hr (by rw [equal_succ]; exact g1 _) g3 g4), VR.mk_bool⟩
  split at h
  · rename_i he
    obtain ⟨x, hx, h⟩ := optK_some h
    obtain ⟨y, hy, h⟩ := optK_some h
    obtain ⟨r, hr, h⟩ := optK_some h
    have hx := as_some hx; have hy := as_some hy
    have hne : (cx.ty t).kind ≠ .other := by
      intro e
      simp [TI.eqs, e] at he
    have hT := hcx t hne
    obtain ⟨hE, hA, hG, hD⟩ := hT.eq (by unfold TI.eqs at he; split at he <;> simp_all)
    refine ⟨_, h, fun m va vb o1 o2 w hva hvb => ?_⟩
    subst hx; subst hy
    have hrun := eqT_run (P := P) (w := w) (t := t) (d := 10000) hE hD hva hvb
    simp only [VR, hA] at hva hvb
    obtain ⟨cs, rfl, _⟩ := hva; obtain ⟨ds, rfl, _⟩ := hvb
    exact ⟨_, run_guarded (run_eqGuard_agg w op t o1 o2 cs ds hG) (run_eq_other hr (by rw [equal_succ]; exact hrun) rfl rfl), VR.mk_bool⟩
  · exact h.elim

end Go.Abs
