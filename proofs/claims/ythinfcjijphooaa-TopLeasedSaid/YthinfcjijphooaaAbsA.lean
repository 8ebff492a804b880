/- Least, greatest; conversions that read; functions as values. -/
import Derived.Test.YthinfcjijphooaaAbs9
namespace Go.Abs
set_option linter.unusedVariables false
set_option linter.unusedSimpArgs false
open Go

section
variable {P : Program} {cx : Ctx} {o : Oper} {env : List V} {H : List Obj} {id : Nat} {K : Eff → Prop}

theorem args_eq {xs : Array Operand} {ys : List Operand} (h : xs.toList = ys) : xs = ys.toArray := by rw [← h]

theorem two_args {xs : Array Operand} {u v : V} (h : opnds env xs.toList = some [u, v]) : ∃ y z, xs = #[y, z] ∧ opnd env y = some u ∧ opnd env z = some v := by
  obtain ⟨hl, hat⟩ := opnds_some h
  match hxs : xs.toList, hl with
  | [y, z], _ =>
    rw [hxs] at hat
    exact ⟨y, z, args_eq hxs, hat 0 y u rfl rfl, hat 1 z v rfl rfl⟩

theorem one_arg {xs : Array Operand} {u : V} (h : opnds env xs.toList = some [u]) : ∃ y, xs = #[y] ∧ opnd env y = some u := by
  obtain ⟨hl, hat⟩ := opnds_some h
  match hxs : xs.toList, hl with
  | [y], _ =>
    rw [hxs] at hat
    exact ⟨y, args_eq hxs, hat 0 y u rfl rfl⟩

theorem fine_min {c : Go.Call} (ho : o.op = .call c) (hb : c.callee = .builtin .min) {a b : V} (hargs : opnds env c.args.toList = some [a, b]) {k k' : IntKind} {x y : Int}
    (ha : a.int? = some (k, x)) (hbb : b.int? = some (k', y)) (h : gd (decide (k = k')) (K (ret ⟨.int k, mnI x y⟩))) : Fine P o env H id K := by
  obtain ⟨h0, h2⟩ := gd_true h
  simp only [decide_eq_true_eq] at h0; subst h0
  have ha := V.int?_some ha; have hbb := V.int?_some hbb; subst ha; subst hbb
  obtain ⟨p, q, hpq, g1, g2⟩ := two_args hargs
  refine ⟨_, h2, Good.pure fun m ac hs hon _ _ => ?_⟩
  obtain ⟨e1, i1⟩ := VR.int (hon p (by simp [ho, Op.operands, Call.operands, hb, hpq]) _ g1)
  obtain ⟨e2, i2⟩ := VR.int (hon q (by simp [ho, Op.operands, Call.operands, hb, hpq]) _ g2)
  refine ⟨.int k (mnI x y), ?_, VR.mk_int ?_⟩
  · simp only [execOp, ho, resolve, hb, hpq]
    simp [invoke, builtin, Go.Builtin.min_, Go.Builtin.min2, e1, e2, mnI]
  · unfold mnI; split <;> assumption

theorem fine_max {c : Go.Call} (ho : o.op = .call c) (hb : c.callee = .builtin .max) {a b : V} (hargs : opnds env c.args.toList = some [a, b]) {k k' : IntKind} {x y : Int}
    (ha : a.int? = some (k, x)) (hbb : b.int? = some (k', y)) (h : gd (decide (k = k')) (K (ret ⟨.int k, mxI x y⟩))) : Fine P o env H id K := by
  obtain ⟨h0, h2⟩ := gd_true h
  simp only [decide_eq_true_eq] at h0; subst h0
  have ha := V.int?_some ha; have hbb := V.int?_some hbb; subst ha; subst hbb
  obtain ⟨p, q, hpq, g1, g2⟩ := two_args hargs
  refine ⟨_, h2, Good.pure fun m ac hs hon _ _ => ?_⟩
  obtain ⟨e1, i1⟩ := VR.int (hon p (by simp [ho, Op.operands, Call.operands, hb, hpq]) _ g1)
  obtain ⟨e2, i2⟩ := VR.int (hon q (by simp [ho, Op.operands, Call.operands, hb, hpq]) _ g2)
  refine ⟨.int k (mxI x y), ?_, VR.mk_int ?_⟩
  · simp only [execOp, ho, resolve, hb, hpq]
    simp [invoke, builtin, Go.Builtin.max_, Go.Builtin.max2, e1, e2, mxI]
  · unfold mxI; split <;> assumption

theorem fine_cap (hcx : CxOk P cx) {c : Go.Call} (ho : o.op = .call c) (hb : c.callee = .builtin .cap) {t e : TypeId} {x : Ty.nilS.El} (hts : ∃ r, c.argTypes.toList = t :: r) (hargs : opnds env c.args.toList = some [⟨.nilS, x⟩])
    (hk : (cx.ty t).kind = .slice e) (h : K (ret ⟨.int .i64, (0 : Int)⟩)) : Fine P o env H id K := by
  have hu := elem_slice hcx hk
  obtain ⟨p, hp, g⟩ := one_arg hargs
  obtain ⟨r, hr⟩ := hts
  refine ⟨_, h, Good.pure fun m ac hs hon _ _ => ?_⟩
  have e1 := VR.nilS (hon p (by simp [ho, Op.operands, Call.operands, hb, hp]) _ g)
  refine ⟨.int .i64 0, ?_, VR.mk_int (by decide)⟩
  have h0 : c.argTypes[0]? = some t := by rw [← Array.getElem?_toList, hr]; rfl
  simp only [execOp, ho, resolve, hb, hp]
  simp [invoke, builtin, Go.Builtin.cap_, e1, h0, run_underlying hu, goInt]

/-! #### Conversions that read -/

theorem known_under (hcx : CxOk P cx) {t : Nat} (h : (cx.ty t).kind.known = true) : ∃ d, P.underlying t = some d := by
  have := (hcx t (known_ne h)).kind
  cases hk : (cx.ty t).kind <;> rw [hk] at this h <;> simp only [KOk, TK.known, Bool.false_eq_true] at this h
  all_goals first | exact ⟨_, this⟩ | (obtain ⟨_, h, _⟩ := this; exact ⟨_, h⟩) | (obtain ⟨_, _, _, h⟩ := this; exact ⟨_, h⟩)

theorem elem_int (hcx : CxOk P cx) {t : Nat} {k : IntKind} (hk : (cx.ty t).kind = .int k) : P.underlying t = some (.int k) := by
  have := (hcx t (by rw [hk]; simp)).kind; rw [hk] at this; exact this

theorem strOf_nums {xs : List Int} (h : ∀ i, i < xs.length → inK .u8 (xs.getD i 0) = true) : strOf (strOfNums xs) = xs := by
  unfold strOf
  rw [strOfNums_data, List.map_map]
  apply List.ext_getElem (by simp)
  intro i h1 h2
  simp only [List.getElem_map, Function.comp_apply]
  have hi := h i h2
  rw [List.getD_eq_getElem?_getD, List.getElem?_eq_getElem h2, inK_iff] at hi
  simp [IntKind.min, IntKind.max, IntKind.signed, IntKind.bits] at hi
  simp only [UInt8.toNat_ofNat']
  omega

theorem strOfNums_len (xs : List Int) : (strOfNums xs).data.toList.length = xs.length := by rw [strOfNums_data]; simp

/-- The elements of a slice of one cell each, as cells. -/
theorem slRead_at {m : M} (hs : StR m) {v : Value} {x : V} {t : Ty} {xs : List t.El} {rd : List Nat} (h : slRead H x t = some (xs, rd)) (hv : VR m v x) (hrd : ∀ i ∈ rd, i < H.length ∧ m.H.getD i .none = H.getD i .none) (hns : x.t ≠ .str) :
    ∃ a c, v = .slice a xs.length c ∧ xs.length ≤ c ∧ xs.length ≤ LIM ∧ ∀ i, i < xs.length → ∃ b o ds, a = some ⟨b, o, none⟩ ∧ ds.length = t.cells ∧ At m.w b (o + i * t.cells) ds ∧ CR m false t ds (xs.getD i t.dflt) := by
  unfold slRead at h
  split at h
  · simp only [Option.some.injEq, Prod.mk.injEq] at h; obtain ⟨rfl, rfl⟩ := h
    cases VR.nilS hv
    exact ⟨none, 0, rfl, by simp, by simp, by simp⟩
  · rename_i s l
    split at h
    · rename_i e; subst e
      simp only [Option.some.injEq, Prod.mk.injEq] at h; obtain ⟨rfl, rfl⟩ := h
      obtain ⟨a, n, c, rfl, h1, h2, h3, h4⟩ := VR.sl hv
      subst h1
      exact ⟨a, c, rfl, h2, h3, fun i hi => by obtain ⟨b, o, ds, q1, _, q2, q3, q4⟩ := h4 i hi; exact ⟨b, o, ds, q1, q2, q3, q4⟩⟩
    · cases h
  · rename_i s p
    split at h
    · rename_i e; subst e
      split at h
      · rename_i t0 l fz hob
        split at h
        · rename_i e; subst e
          have hv := VR.rf hv
          simp only [CR] at hv
          obtain ⟨ad, n, c, e1, g1, g2, g3, g4⟩ := hv
          simp only [List.cons.injEq, and_true] at e1
          subst e1
          have hob' : H.getD p.1 .none = .row t0 l fz := by simp [List.getD, hob]
          have key : ∀ (hrd' : m.H.getD p.1 .none = H.getD p.1 .none), ∃ off len, off = rfOff p.2 ∧ n = rfLen l.length p.2 ∧ off + n ≤ l.length ∧ (c = 0 ∨ ∃ b base cap, m.ρ p.1 = some (b, base, cap) ∧ ad = some ⟨b, base + off * t0.cells, none⟩) ∧ len = n := by
            intro hrd'
            rw [hrd', hob'] at g4
            obtain ⟨_, g4⟩ := g4
            cases hp : p.2 with
            | none =>
              rw [hp] at g4
              refine ⟨0, n, rfl, g4.1, by omega, g4.2.imp (fun h => h) (fun ⟨b, base, cap, q1, q2, _⟩ => ⟨b, base, cap, q1, by simpa using q2⟩), rfl⟩
            | some q =>
              rw [hp] at g4
              exact ⟨q.1, n, rfl, g4.1, by have := g4.2.1; omega, g4.2.2.2.imp (fun h => h) (fun ⟨b, base, cap, q1, q2, _⟩ => ⟨b, base, cap, q1, q2⟩), rfl⟩
          have elems : ∀ (hrd' : m.H.getD p.1 .none = H.getD p.1 .none) (off : Nat), off + n ≤ l.length → (c = 0 ∨ ∃ b base cap, m.ρ p.1 = some (b, base, cap) ∧ ad = some ⟨b, base + off * t0.cells, none⟩) →
              ∀ i, i < n → ∃ b o ds, ad = some ⟨b, o, none⟩ ∧ ds.length = t0.cells ∧ At m.w b (o + i * t0.cells) ds ∧ CR m false t0 ds (l.getD (off + i) t0.dflt) := by
            intro hrd' off h1 h2 i hi
            rcases h2 with h2 | ⟨b, base, cap, q1, q2⟩
            · omega
            have hor := hs.ok p.1 g3
            rw [hrd', hob'] at hor
            simp only [OR] at hor
            rcases hor with ⟨_, hor⟩ | ⟨b', base', cap', r1, _, _, _, r2, _⟩
            · rw [hor] at q1; cases q1
            · rw [q1] at r1; simp only [Option.some.injEq, Prod.mk.injEq] at r1; obtain ⟨rfl, rfl, rfl⟩ := r1
              obtain ⟨ds, d1, d2, d3⟩ := r2 (off + i) (by omega)
              exact ⟨b, base + off * t0.cells, ds, q2, d1, by rw [Nat.add_assoc, ← Nat.add_mul]; exact d2, d3⟩
          split at h
          · rename_i hp
            simp only [Option.some.injEq, Prod.mk.injEq] at h; obtain ⟨rfl, rfl⟩ := h
            have hrd' := (hrd p.1 (by simp)).2
            obtain ⟨off, _, k1, k2, k3, k4, _⟩ := key hrd'
            rw [hp] at k1 k2
            simp only [rfOff, rfLen] at k1 k2
            subst k1; subst k2
            exact ⟨ad, c, rfl, g1, g2, fun i hi => by have := elems hrd' 0 (by omega) k4 i hi; simpa using this⟩
          · rename_i off len hp
            simp only [Option.some.injEq, Prod.mk.injEq] at h; obtain ⟨rfl, rfl⟩ := h
            have hrd' := (hrd p.1 (by simp)).2
            obtain ⟨off', _, k1, k2, k3, k4, _⟩ := key hrd'
            rw [hp] at k1 k2
            simp only [rfOff, rfLen] at k1 k2
            subst k1; subst k2
            have hlen : ((l.drop off').take n).length = n := by simp only [List.length_take, List.length_drop]; omega
            refine ⟨ad, c, by simp only [hlen], by simp only [hlen]; exact g1, by simp only [hlen]; exact g2, fun i hi => ?_⟩
            simp only [hlen] at hi
            obtain ⟨b, o, ds, z1, z2, z3, z4⟩ := elems hrd' off' k3 k4 i hi
            refine ⟨b, o, ds, z1, z2, z3, ?_⟩
            rw [show ((l.drop off').take n).getD i t0.dflt = l.getD (off' + i) t0.dflt from by
              simp only [List.getD_eq_getElem?_getD]
              rw [List.getElem?_take_of_lt hi, List.getElem?_drop]]
            exact z4
        · cases h
      · cases h
    · cases h
  · exact absurd rfl hns
  · cases h

theorem run_conv_int {w : World} {src dst : TypeId} {k k' : IntKind} {n : Int} {d : TypeDesc} (hs : P.underlying src = some d) (hd : P.underlying dst = some (.int k')) :
    (convert src dst (.int k n)).run P w = .ok (.int k' (k'.wrap n)) w := by
  simp [convert, run_underlying hs, run_underlying hd, Go.Conv.intToInt]

theorem run_conv_str {w : World} {src dst : TypeId} {s : ByteArray} {d : TypeDesc} (hs : P.underlying src = some d) (hd : P.underlying dst = some .string) :
    (convert src dst (.string s)).run P w = .ok (.string s) w := by
  simp only [convert, Sem.run_bind, run_underlying hs, run_underlying hd, Result.andThen_ok, Sem.run_pure]

theorem fine_conv (hcx : CxOk P cx) {src dst : TypeId} {x : Operand} (ho : o.op = .convert src dst x) (h : evC cx env H id (.convert src dst x) K) (hns : ∀ e, (cx.ty dst).kind ≠ .slice e) : Fine P o env H id K := by
  simp only [evC] at h
  obtain ⟨v, hx, h⟩ := optK_some h
  have hox : x ∈ o.op.operands.toList := by simp [ho, Op.operands]
  unfold convV at h
  split at h
  · rename_i k hk
    have hd := elem_int hcx hk
    split at h
    · rename_i k0 n hn
      obtain ⟨hkn, h⟩ := gd_true h
      obtain ⟨d, hs⟩ := known_under hcx hkn
      have hn := V.int?_some hn; subst hn
      refine ⟨_, h, Good.pure fun m a hst hon _ _ => ?_⟩
      obtain ⟨e, _⟩ := VR.int (hon x hox _ hx)
      exact ⟨_, by simp [execOp, ho, e, run_conv_int hs hd], VR.mk_int (inK_wrap _ _)⟩
    · exact h.elim
  · rename_i hk
    have hd := elem_str hcx hk
    split at h
    · obtain ⟨hkn, h⟩ := gd_true h
      obtain ⟨d, hs⟩ := known_under hcx hkn
      refine ⟨_, h, Good.pure fun m a hst hon _ _ => ?_⟩
      have hv := hon x hox _ hx
      obtain ⟨s, e, _⟩ := VR.str hv
      refine ⟨a.eval x, ?_, hv⟩
      simp only [execOp, ho, e, Sem.run_bind, run_conv_str hs hd]; simp
    · rename_i hnstr
      split at h
      · rename_i e hks
        split at h
        · rename_i hke
          obtain ⟨p, hp, h⟩ := optK_some h
          obtain ⟨xs, rd⟩ := p
          have hs := elem_slice hcx hks
          have he := elem_int hcx hke
          refine ⟨_, h, Good.pure fun m a hst hon _ hrd => ?_⟩
          obtain ⟨ad, c, e1, h1, h2, h3⟩ := slRead_at hst hp (hon x hox _ hx) hrd (by
            intro hh
            obtain ⟨vt, vx⟩ := v
            simp only at hh; subst hh
            exact hnstr _ rfl)
          have hin : ∀ i, i < List.length (xs : List Int) → inK .u8 (List.getD (xs : List Int) i 0) = true := by
            intro i hi
            obtain ⟨b, of, ds, _, _, _, q⟩ := h3 i hi
            simp only [CR] at q; exact q.2
          have hcell : ∀ i, i < List.length (xs : List Int) → ∃ b of, ad = some ⟨b, of, none⟩ ∧ m.w.cell? ⟨b, of + i, none⟩ = some (.int .u8 (List.getD (xs : List Int) i 0)) := by
            intro i hi
            obtain ⟨b, of, ds, q0, _, q2, q⟩ := h3 i hi
            simp only [CR] at q
            have q2 := q2 0 _ (by rw [q.1]; rfl)
            simp only [Ty.cells, Nat.mul_one, Nat.add_zero] at q2
            exact ⟨b, of, q0, q2⟩
          have hstr : VR m (.string (strOfNums xs)) ⟨.str, xs⟩ := VR.mk_str (strOf_nums hin) (Nat.le_trans (Nat.le_of_eq (strOfNums_len xs)) h2)
          by_cases h0 : List.length (xs : List Int) = 0
          · have hx0 : xs = ([] : List Int) := List.eq_nil_of_length_eq_zero h0
            subst hx0
            refine ⟨.string (strOfNums []), ?_, hstr⟩
            cases ad with
            | none => simp only [execOp, ho, e1, Sem.run_bind, run_convert_bytes_nil m.w src e hs he _ _ dst hd]; rfl
            | some ad =>
              simp only [execOp, ho, e1, Sem.run_bind, run_convert_bytes_string m.w src dst e (some ad) _ c hs he hd]
              simp [Go.Conv.bytesToString, loadCells, loadCellsFrom, strOfNums]
              rfl
          · obtain ⟨b, of, rfl, _⟩ := hcell 0 (by omega)
            refine ⟨.string (strOfNums xs), ?_, hstr⟩
            have := run_convert_bytes_arg (P := P) m.w src e hs he b of (List.length (xs : List Int)) c xs rfl (fun i hi => by
              obtain ⟨b', of', q, q'⟩ := hcell i hi
              simp only [Option.some.injEq, Addr.mk.injEq] at q
              obtain ⟨rfl, rfl, _⟩ := q
              exact q') dst hd
            simp only [execOp, ho, e1, Sem.run_bind]
            erw [this]; rfl
        · exact h.elim
      · exact h.elim
  · rename_i e hk; exact absurd hk (hns e)
  · exact h.elim

theorem tupOf_rel {m : M} : ∀ {xs : List Operand} {l : List V} {vs : List Value}, (∀ (j : Nat) (v : V) (u : Value), l[j]? = some v → vs[j]? = some u → VR m u v) → l.length = vs.length → CR m true (tupOf l).t vs (tupOf l).x
  | _, [], vs, _, hl => by simp at hl; simp [tupOf, CR]; exact List.eq_nil_of_length_eq_zero hl.symm
  | xs, v :: l, vs, h, hl => by
    match vs, hl with
    | u :: vs, hl =>
      simp only [tupOf, CR]
      refine ⟨u, vs, rfl, ?_, tupOf_rel (xs := xs) (fun j v' u' h1 h2 => h (j + 1) v' u' (by simpa using h1) (by simpa using h2)) (by simpa using hl)⟩
      exact h 0 v u rfl rfl

theorem fine_makeFunc {fn : Fn} {first captured : Array Operand} (ho : o.op = .makeFunc fn first captured) (h : evC cx env H id (.makeFunc fn first captured) K) : Fine P o env H id K := by
  simp only [evC] at h
  split at h
  · rename_i n hf
    obtain ⟨l, hl, h⟩ := optK_some h
    obtain ⟨g1, g2⟩ := opnds_some hl
    refine ⟨_, h, Good.pure fun m a hst hon _ _ => ?_⟩
    have hfirst : first = #[] := by rw [args_eq hf]
    refine ⟨.func (.func n) #[] (captured.map a.eval), by simp [execOp, ho, Go.Instr.makeFunc, hfirst], ?_⟩
    simp only [ret, VR, Ty.isAgg, CR]
    refine ⟨_, rfl, tupOf_rel (xs := []) (fun j v u h1 h2 => ?_) (by simpa using g1.symm)⟩
    rw [Array.toList_map, List.getElem?_map] at h2
    cases hy : captured.toList[j]? with
    | none => rw [hy] at h2; cases h2
    | some y =>
      rw [hy] at h2; simp only [Option.map_some, Option.some.injEq] at h2; subst h2
      exact hon y (by
        have : y ∈ captured.toList := List.mem_of_getElem? hy
        simp [ho, Op.operands]; right; simpa using this) _ (g2 j y v hy h1)
  · exact h.elim

end
end Go.Abs
