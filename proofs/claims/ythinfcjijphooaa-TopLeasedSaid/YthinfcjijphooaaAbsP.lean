/- One operation: all cases. -/
import Derived.Test.YthinfcjijphooaaAbsO
namespace Go.Abs
set_option linter.unusedVariables false
set_option linter.unusedSimpArgs false
open Go

section
variable {P : Program} {cx : Ctx} {o : Oper} {env : List V} {H : List Obj} {id : Nat} {K : Eff → Prop}

theorem Gives.of_does {a : Act} {w : World} {f : FuncId} {vs : Array Value} {R : Value → World → Prop} (h : (execOp a.eval o).run P w = (callFunc f vs).run P w) (hd : Does P f vs w R) : Gives P o a w R := by
  rcases hd with ⟨h1, h2⟩ | ⟨v, w', h1, h2⟩
  · exact Gives.enter (by rw [h, h1]) h2
  · exact Gives.value (by rw [h, h1]) h2

theorem fine_append (hcx : CxOk P cx) {c : Go.Call} (ho : o.op = .call c) (hb : c.callee = .builtin .append) {ts tx : Nat} {rest : List Nat} (hts : c.argTypes.toList = ts :: tx :: rest) {s x : V} (hargs : opnds env c.args.toList = some [s, x])
    {e : Nat} {d : TypeDesc} (hu : P.underlying ts = some (.slice e)) (hux : P.underlying tx = some d) (hni : ∀ k, d ≠ .int k) (hk : (cx.ty e).kind.known = true) (hm : (cx.ty e).dt.mem = true) (h : appendV H id (cx.ty e).dt (cx.ty e).bytes s x K) : Fine P o env H id K := by
  obtain ⟨eff, h1, h2⟩ := appendV_fine (P := P) hcx hk hm hu hux hni h
  obtain ⟨p, q, hpq, g1, g2⟩ := two_args hargs
  refine ⟨eff, h1, fun m a hs hon hlen hrd hfree => ?_⟩
  have hp := hon p (by simp [ho, Op.operands, Call.operands, hb, hpq]) _ g1
  have hq := hon q (by simp [ho, Op.operands, Call.operands, hb, hpq]) _ g2
  obtain ⟨v, m', r1, r2, r3, r4, r5⟩ := h2 m (a.eval p) (a.eval q) hs hp hq hlen hrd (hfree (by rw [ho]; simp [laysOf, hb])) o.type rest
  refine Gives.value (v := v) (w' := m'.w) ?_ ⟨m', rfl, r2, r3, r4, r5⟩
  have hts' := size_one hts
  simp only [execOp, ho, resolve, hb, hpq, hts']
  simp [invoke, builtin] at r1 ⊢
  rw [r1]; rfl

theorem opnds_get {xs : List Operand} {vs : List V} (h : opnds env xs = some vs) {m : M} {a : Act} (hon : ∀ x ∈ xs, ∀ u, opnd env x = some u → VR m (a.eval x) u) :
    vs.length = (xs.map a.eval).length ∧ ∀ (j : Nat) (v : Value) (u : V), (xs.map a.eval)[j]? = some v → vs[j]? = some u → VR m v u := by
  obtain ⟨h1, h2⟩ := opnds_some h
  refine ⟨by simp [h1], fun j v u hv hu => ?_⟩
  rw [List.getElem?_map] at hv
  cases hx : xs[j]? with
  | none => rw [hx] at hv; cases hv
  | some x =>
    rw [hx] at hv; simp only [Option.map_some, Option.some.injEq] at hv; subst hv
    exact hon x (List.mem_of_getElem? hx) u (h2 j x u hx hu)

theorem fine_callF (hcx : CxOk P cx) (hcalls : CallsOk P cx) (hdet : CallsDet cx) {c : Go.Call} {fo : Operand} (ho : o.op = .call c) (hb : c.callee = .value fo) {args : List V} (hargs : opnds env c.args.toList = some args)
    {f : Nat} {s : Ty} {x : (Ty.fn f s).El} (hf : opnd env fo = some ⟨.fn f s, x⟩) (h : callF cx H id f (args ++ tupParts s x) K) : Fine P o env H id K := by
  obtain ⟨e, hK, hd⟩ := callF_fine hcalls hdet h
  refine ⟨e, hK, fun m a hs hon hlen hrd hfree => ?_⟩
  have hfv := hon fo (by simp [ho, Op.operands, Call.operands, hb]) _ hf
  simp only [VR, Ty.isAgg, CR] at hfv
  obtain ⟨cs, e1, hcr⟩ := hfv
  simp only [List.cons.injEq, and_true] at e1
  obtain ⟨t1, t2⟩ := tupParts_rel hcr
  obtain ⟨a1, a2⟩ := opnds_get hargs (m := m) (a := a) (fun y hy u hu => hon y (by simp [ho, Op.operands, Call.operands, hb]; right; simpa using hy) u hu)
  refine Gives.of_does (f := f) (vs := (c.args.toList.map a.eval ++ cs.toList).toArray) ?_ (hd m (c.args.toList.map a.eval ++ cs.toList) hs (by simp only [List.length_append, a1, t1]) (fun j v u hv hu => ?_) hlen hrd (hfree (by rw [ho]; simp [laysOf, hb])))
  · simp only [execOp, ho, resolve, hb, e1, Deferred.ofValue]
    have : (#[] ++ c.args.map a.eval) ++ cs = (c.args.toList.map a.eval ++ cs.toList).toArray := by
      apply Array.ext'; simp
    simp [invoke]
    congr 2
    apply Array.ext'; simp
  · rw [List.getElem?_append] at hv hu
    rw [← a1] at hv
    split at hv
    · rename_i hj; rw [if_pos hj] at hu; exact a2 j v u hv hu
    · rename_i hj; rw [if_neg hj] at hu; exact t2 _ v u hv hu

theorem fine_slice (hcx : CxOk P cx) {t : Nat} {x : Operand} {lo hi mx : Option Operand} (ho : o.op = .slice t x lo hi mx) (h : evC cx env H id (.slice t x lo hi mx) K) : Fine P o env H id K := by
  simp only [evC] at h
  split at h
  · exact h.elim
  · have main : ∀ {v : V} {ulo uhi : Option V}, opnd env x = some v → OpO env lo ulo → OpO env hi uhi → sliceV H cx t v ulo uhi K → Fine P o env H id K := by
      intro v ulo uhi hx hlo hhi h
      by_cases hk : ∃ a, (cx.ty t).kind = .ptr a
      · obtain ⟨a, hk⟩ := hk; exact fine_slice_arr ho hx hlo hhi hcx h hk
      · exact fine_slice_pure ho hx hlo hhi hcx h (fun a ha => hk ⟨a, ha⟩)
    obtain ⟨v, hx, h⟩ := optK_some h
    split at h
    · exact main (ulo := none) (uhi := none) hx trivial trivial h
    · obtain ⟨ua, ha, h⟩ := optK_some h
      exact main (ulo := some ua) (uhi := none) hx ha trivial h
    · obtain ⟨ub, hb, h⟩ := optK_some h
      exact main (ulo := none) (uhi := some ub) hx trivial hb h
    · obtain ⟨ua, ha, h⟩ := optK_some h
      obtain ⟨ub, hb, h⟩ := optK_some h
      exact main (ulo := some ua) (uhi := some ub) hx ha hb h

theorem fine_call (hcx : CxOk P cx) (hcalls : CallsOk P cx) (hdet : CallsDet cx) {c : Go.Call} (ho : o.op = .call c) (h : evC cx env H id (.call c) K) : Fine P o env H id K := by
  simp only [evC] at h
  obtain ⟨args, hargs, h⟩ := optK_some h
  split at h
  · rename_i b hb
    unfold builtinV at h
    split at h
    · split at h
      · rename_i hts; exact fine_len hcx ho hb (size_one hts) hargs h
      · exact h.elim
    · split at h
      · rename_i t r hts
        split at h
        · rename_i e hk; exact fine_cap hcx ho hb ⟨_, hts⟩ hargs hk h
        · exact h.elim
      · exact h.elim
    · split at h
      · rename_i t u r hts
        split at h
        · rename_i e e2 hk hk2
          obtain ⟨hg, h⟩ := gd_true h
          simp only [Bool.and_eq_true] at hg
          exact fine_append hcx ho hb hts hargs (elem_slice hcx hk) (elem_slice hcx hk2) (by simp) hg.1 hg.2 h
        · rename_i e hk hk2
          obtain ⟨hg, h⟩ := gd_true h
          simp only [Bool.and_eq_true] at hg
          exact fine_append hcx ho hb hts hargs (elem_slice hcx hk) (elem_str hcx hk2) (by simp) hg.1 hg.2 h
        · exact h.elim
      · exact h.elim
    · split at h
      · rename_i ha hb2; exact fine_min ho hb hargs ha hb2 h
      · exact h.elim
    · split at h
      · rename_i ha hb2; exact fine_max ho hb hargs ha hb2 h
      · exact h.elim
    · exact h.elim
  · rename_i fo hb
    split at h
    · rename_i f s x hf; exact fine_callF hcx hcalls hdet ho hb hargs hf h
    · exact h.elim
  · exact h.elim

theorem evC_sound (hcx : CxOk P cx) (hcalls : CallsOk P cx) (hdet : CallsDet cx) (h : evC cx env H id o.op K) : Fine P o env H id K := by
  generalize ho : o.op = op at h
  cases op
  case move x => simp only [evC] at h; exact fine_move (.inl ho) h
  case assign x => simp only [evC] at h; exact fine_move (.inr ho) h
  case pick => exact fine_pick ho h
  case alloc => exact fine_alloc hcx ho h
  case box => exact fine_box hcx ho h
  case build => exact fine_build hcx ho h
  case buildSlice => exact fine_buildSlice hcx ho h
  case load => exact fine_load hcx ho h
  case store => exact fine_store hcx ho h
  case nilCheck => exact fine_nilCheck ho h
  case binOp => exact fine_binOp hcx ho h
  case unOp => exact fine_unOp ho h
  case convert src dst x =>
    by_cases hk : ∃ e, (cx.ty dst).kind = .slice e
    · obtain ⟨e, hk⟩ := hk; exact fine_toBytes hcx ho hk h
    · exact fine_conv hcx ho h (fun e he => hk ⟨e, he⟩)
  case makeFunc => exact fine_makeFunc ho h
  case makeSlice => exact fine_makeSlice hcx ho h
  case slice => exact fine_slice hcx ho h
  case fieldAddr => exact fine_fieldAddr hcx ho h
  case field => exact fine_field hcx ho h
  case indexAddr => exact fine_indexAddr hcx ho h
  case index => exact fine_index hcx ho h
  case extract => exact fine_extract ho h
  case call => exact fine_call hcx hcalls hdet ho h
  all_goals exact absurd h (by simp only [evC]; exact fun h => h)

end
end Go.Abs
