/- Composite literals. -/
import Derived.Test.YthinfcjijphooaaAbsD
namespace Go.Abs
set_option linter.unusedVariables false
set_option linter.unusedSimpArgs false
open Go

theorem foldl_splice (off : Nat) : ∀ (l : List Value) (k : Nat) (cells : Array Value), off + k + l.length ≤ cells.size →
    ((l.zipIdx k).foldl (fun (cs : Array Value) (p : Value × Nat) => cs.setIfInBounds (off + p.2) p.1) cells).toList = cells.toList.take (off + k) ++ l ++ cells.toList.drop (off + k + l.length)
  | [], k, cells, h => by simp
  | v :: l, k, cells, h => by
    simp only [List.zipIdx_cons, List.foldl_cons]
    rw [foldl_splice off l (k + 1) _ (by simp at h ⊢; omega)]
    simp only [Array.toList_setIfInBounds, List.length_cons] at h ⊢
    have hls : cells.toList.length = cells.size := Array.length_toList
    have hlt : off + k < cells.toList.length := by omega
    have e1 : List.take (off + (k + 1)) (cells.toList.set (off + k) v) = cells.toList.take (off + k) ++ [v] := by
      apply List.ext_getElem?
      intro i
      rcases Nat.lt_or_ge i (off + k) with h1 | h1
      · rw [List.getElem?_take_of_lt (by omega), List.getElem?_set_ne (by omega), List.getElem?_append_left (by simp; omega), List.getElem?_take_of_lt h1]
      · rcases Nat.eq_or_lt_of_le h1 with h2 | h2
        · subst h2
          rw [List.getElem?_take_of_lt (by omega), List.getElem?_set_self hlt, List.getElem?_append_right (by simp only [List.length_take]; omega)]
          simp only [List.length_take]
          rw [show off + k - min (off + k) cells.toList.length = 0 by omega]; rfl
        · rw [List.getElem?_eq_none (by simp only [List.length_take]; omega), List.getElem?_eq_none (by simp only [List.length_append, List.length_take, List.length_singleton]; omega)]
    have e2 : List.drop (off + (k + 1) + l.length) (cells.toList.set (off + k) v) = cells.toList.drop (off + k + (l.length + 1)) := by
      rw [List.drop_set_of_lt (by omega)]; congr 1; omega
    rw [e1, e2]; simp

theorem fill_one {place : Nat → Option (Nat × Nat)} {cells : Array Value} {i off size : Nat} {v : Value} {rest : List (Nat × Value)} (h : place i = some (off, size)) (hs : v.cells.size = size) (hl : off + size ≤ cells.size) :
    ∃ cells' : Array Value, Go.Instr.fill place cells ((i, v) :: rest) = Go.Instr.fill place cells' rest ∧ cells'.toList = cells.toList.take off ++ v.cells.toList ++ cells.toList.drop (off + size) := by
  refine ⟨v.cells.zipIdx.foldl (fun (cs : Array Value) (p : Value × Nat) => cs.setIfInBounds (off + p.2) p.1) cells, ?_, ?_⟩
  · simp only [Go.Instr.fill, h]
    rw [if_neg (by simp [hs]; omega)]
  have := foldl_splice off v.cells.toList 0 cells (by simp; omega)
  simp only [Nat.add_zero] at this
  rw [Array.length_toList, hs] at this
  rw [← this]
  congr 1
  rw [← Array.foldl_toList, Array.toList_zipIdx]

theorem set_flat : ∀ {css : List (List Value)} {i k : Nat} {c : List Value}, i < css.length → (∀ j, j < css.length → (css.getD j []).length = k) → c.length = k →
    css.flatten.take (i * k) ++ c ++ css.flatten.drop (i * k + k) = (css.set i c).flatten
  | [], i, k, c, h, _, _ => by simp at h
  | d :: r, 0, k, c, _, hk, hc => by
    have h0 := hk 0 (by simp)
    simp at h0
    simp only [Nat.zero_mul, List.take_zero, List.nil_append, Nat.zero_add, List.flatten_cons, List.set_cons_zero]
    rw [List.drop_append_of_le_length (by omega), List.drop_of_length_le (by omega)]; rfl
  | d :: r, i + 1, k, c, h, hk, hc => by
    have h0 := hk 0 (by simp)
    simp at h0
    have ih := set_flat (css := r) (i := i) (k := k) (c := c) (by simpa using h) (fun j hj => by have := hk (j + 1) (by simpa using hj); simpa using this) hc
    simp only [List.flatten_cons, List.set_cons_succ]
    rw [← ih]
    have e : (i + 1) * k = d.length + i * k := by rw [Nat.add_mul, h0]; omega
    rw [e, List.take_append, List.drop_append]
    simp [List.take_of_length_le, List.drop_of_length_le, Nat.add_assoc]

theorem VR_cells {m : M} {v : Value} {u : V} (h : VR m v u) (hm : u.t.mem = true) : CR m false u.t v.cells.toList u.x := CR_of_VR (t := u.t) (x := u.x) h (mem_ne hm)

section
variable {P : Program} {cx : Ctx} {o : Oper} {env : List V} {H : List Obj} {id : Nat} {K : Eff → Prop}

theorem fillL_run {m m1 : M} (hs : StR m) (hS : ∀ b, m.S b → m1.S b) (hw : m1.w = m.w) {t : Ty} (hm : t.mem = true) {ev : Operand → Value} {n : Nat} :
    ∀ {parts : List (Nat × Operand)} {l l' : List t.El} {z : List Nat} {css : List (List Value)} {cells : Array Value}, fillL H env t n l parts = some (l', z) → (∀ x ∈ parts, ∀ u, opnd env x.2 = some u → VR m (ev x.2) u) →
    (∀ i ∈ z, Sim (m.H.getD i .none) (H.getD i .none)) → (∀ i ∈ z, ∀ b base cap, m.ρ i = some (b, base, cap) → (m.H.getD i .none).live → m1.S b) → l.length = n → css.length = n →
    (∀ i, i < n → (css.getD i []).length = t.cells ∧ CR m1 false t (css.getD i []) (l.getD i t.dflt)) → cells.toList = css.flatten →
    ∃ (css' : List (List Value)) (cells' : Array Value), Go.Instr.fill (fun i => some (i * t.cells, t.cells)) cells (parts.map fun p => (p.1, ev p.2)) = some cells' ∧ cells'.toList = css'.flatten ∧ l'.length = n ∧ css'.length = n ∧
      ∀ i, i < n → (css'.getD i []).length = t.cells ∧ CR m1 false t (css'.getD i []) (l'.getD i t.dflt)
  | [], l, l', z, css, cells, h, _, _, _, hl, hc, he, hcs => by
    simp only [fillL, Option.some.injEq, Prod.mk.injEq] at h
    obtain ⟨rfl, rfl⟩ := h
    exact ⟨css, cells, rfl, hcs, hl, hc, he⟩
  | (i, x) :: r, l, l', z, css, cells, h, hv, hrd, hF, hl, hc, he, hcs => by
    simp only [fillL] at h
    split at h
    · rename_i v hx hi
      simp only [decide_eq_true_eq] at hi
      split at h
      · rename_i y z1 hd
        split at h
        · rename_i mm z2 hr
          simp only [Option.some.injEq, Prod.mk.injEq] at h
          obtain ⟨rfl, rfl⟩ := h
          have hvx := hv (i, x) (by simp) v hx
          have hy := deepAs_VR hs hS hw hvx hd (fun j hj => hrd j (by simp [hj])) (fun j hj => hF j (by simp [hj]))
          have hyc := VR_cells hy hm
          have hsz : (ev x).cells.size = t.cells := by have := hyc.len; simpa using this
          have hflat : css.flatten.length = n * t.cells := by rw [flatten_len (k := t.cells) (fun j hj => (he j (by omega)).1), hc]
          have hle : i * t.cells + t.cells ≤ cells.size := by
            rw [← Array.length_toList, hcs, hflat, ← Nat.succ_mul]; exact Nat.mul_le_mul_right _ (by omega)
          obtain ⟨cells1, f1, f2⟩ := fill_one (place := fun i => some (i * t.cells, t.cells)) (rest := r.map fun p => (p.1, ev p.2)) (i := i) rfl hsz hle
          rw [hcs, set_flat (by omega) (fun j hj => (he j (by omega)).1) (by simpa using hsz)] at f2
          have hset : ∀ {α : Type} (l : List α) (j : Nat) (y d : α), i < l.length → (l.set i y).getD j d = if j = i then y else l.getD j d := by
            intro α l j y d hlt
            simp only [List.getD_eq_getElem?_getD, List.getElem?_set]
            by_cases h : i = j
            · subst h; simp [hlt]
            · rw [if_neg h, if_neg (Ne.symm h)]
          obtain ⟨css', cells', g1, g2, g3, g4, g5⟩ := fillL_run hs hS hw hm (l := l.set i y) (css := css.set i (ev x).cells.toList) (cells := cells1) hr (fun p hp => hv p (by simp [hp])) (fun j hj => hrd j (by simp [hj])) (fun j hj => hF j (by simp [hj])) (by simpa using hl) (by simpa using hc) (fun j hj => by
            rw [hset _ _ _ _ (by omega), hset _ _ _ _ (by omega)]
            split
            · exact ⟨by simpa using hsz, hyc⟩
            · exact he j hj) f2
          exact ⟨css', cells', by rw [List.map_cons, f1]; exact g1, g2, g3, g4, g5⟩
        · cases h
      · cases h
    · cases h

theorem ups_frz {H0 : List Obj} : ∀ {z : List Nat} {G : List Obj} {i : Nat}, G.length = H0.length → i < G.length → (i ∈ z ∨ G.getD i .none = frz (H0.getD i .none)) → (ups G (frzAll H0 z)).getD i .none = frz (H0.getD i .none)
  | [], G, i, _, _, h => by
    rcases h with h | h
    · cases h
    · exact h
  | j :: z, G, i, hl, hi, h => by
    show (ups (G.set j (frz (H0.getD j .none))) (frzAll H0 z)).getD i .none = _
    refine ups_frz (by simpa using hl) (by simpa using hi) ?_
    by_cases hij : i = j
    · subst hij; right; rw [getD_set hi]; simp
    · rcases h with h | h
      · rcases List.mem_cons.1 h with h | h
        · exact absurd h hij
        · exact .inl h
      · right
        rcases Nat.lt_or_ge j G.length with hj | hj
        · rw [getD_set hj, if_neg hij]; exact h
        · rw [List.set_eq_of_length_le hj]; exact h

/-- The state, some objects frozen. -/
theorem StR.freezesL {m : M} (hs : StR m) {H0 : List Obj} (hl : m.H.length = H0.length) {z : List Nat} (hz : ∀ i ∈ z, i < H0.length ∧ m.H.getD i .none = H0.getD i .none) :
    ∃ S' : Nat → Prop, (∀ b, m.S b → S' b) ∧ StR ⟨m.ρ, ups m.H (frzAll H0 z), S', m.w⟩ ∧ m.le ⟨m.ρ, ups m.H (frzAll H0 z), S', m.w⟩ ∧
      (∀ i ∈ z, ∀ b base cap, m.ρ i = some (b, base, cap) → (m.H.getD i .none).live → S' b) := by
  obtain ⟨S', s1, s2, s3, s4⟩ := StR.freezes (z := z) hs hl (fun i hi => ⟨(hz i hi).1, .inl (hz i hi).2⟩)
  refine ⟨S', s1, s2, s3, fun i hi b base cap hb hlv => s4 i (.inl hi) (hz i hi).1 b base cap hb ?_⟩
  show ((ups m.H (frzAll H0 z)).getD i .none).live
  rw [ups_frz hl (by rw [hl]; exact (hz i hi).1) (.inl hi), ← (hz i hi).2]
  cases hh : m.H.getD i .none <;> rw [hh] at hlv <;> simp [Obj.live, frz] at hlv ⊢

theorem ups_free {H0 : List Obj} {z : List Nat} {G : List Obj} {i : Nat} (hl : G.length = H0.length) (hz : ∀ j ∈ z, j < H0.length ∧ G.getD j .none = H0.getD j .none) (h : G[i]? = some .free) : (ups G (frzAll H0 z))[i]? = some .free := by
  have hi : i < G.length := by
    rcases Nat.lt_or_ge i G.length with h' | h'
    · exact h'
    · rw [List.getElem?_eq_none h'] at h; cases h
  have key : ∀ {z : List Nat} {G : List Obj}, G.length = H0.length → (∀ j ∈ z, j = i → frz (H0.getD j .none) = .free) → G[i]? = some .free → (ups G (frzAll H0 z))[i]? = some .free := by
    intro z
    induction z with
    | nil => intro G _ _ h; exact h
    | cons j z ih =>
      intro G hl hz h
      show (ups (G.set j (frz (H0.getD j .none))) (frzAll H0 z))[i]? = _
      refine ih (by simpa using hl) (fun k hk => hz k (by simp [hk])) ?_
      rw [List.getElem?_set]
      split
      · rename_i hij; rw [hz j (by simp) hij]; subst hij
        have : j < G.length := by
          rcases Nat.lt_or_ge j G.length with h' | h'
          · exact h'
          · rw [List.getElem?_eq_none h'] at h; cases h
        simp [this]
      · exact h
  refine key hl (fun j hj hji => ?_) h
  subst hji
  rw [← (hz j hj).2, getD_some h]; rfl

theorem fine_buildSlice (hcx : CxOk P cx) {t : TypeId} {n : Nat} {parts : Array (Nat × Operand)} (ho : o.op = .buildSlice t n parts) (h : evC cx env H id (.buildSlice t n parts) K) : Fine P o env H id K := by
  simp only [evC] at h
  obtain ⟨hk, h⟩ := gd_true h
  split at hk
  · rename_i e hke
    have hel : cx.elem t = e := by simp [Ctx.elem, hke]
    rw [hel] at h
    simp only [Bool.and_eq_true, decide_eq_true_eq] at hk
    obtain ⟨⟨⟨hk1, hk2⟩, hk3⟩, hk4⟩ := hk
    have hu := elem_slice hcx hke
    obtain ⟨inf, z, i1, i2, i3, i4, i5, i6, i7⟩ := (hcx e (known_ne hk1)).inf
    obtain ⟨p, hp, h⟩ := optK_some h
    obtain ⟨l, zz⟩ := p
    refine ⟨_, h, fun m ac hs hon hlen hrd hfree => ?_⟩
    have hid := hfree (by rw [ho]; rfl)
    obtain ⟨S', s1, s2, s3, s4⟩ := hs.freezesL hlen (z := zz) hrd
    have hz : ∀ m, CR m false (cx.ty e).dt z.cells.toList (cx.ty e).dt.dflt := fun m => CR_of_VR (i6 m) (mem_ne hk2)
    have hzl : z.cells.size = (cx.ty e).dt.cells := by have := (hz m).len; simpa using this
    have hsz : inf.size = z.cells.size := i2.trans i7.symm
    obtain ⟨css', cells', g1, g2, g3, g4, g5⟩ := fillL_run (m1 := ⟨m.ρ, ups m.H (frzAll H zz), S', m.w⟩) hs s1 rfl hk2 (ev := ac.eval) (css := List.replicate n z.cells.toList) (cells := madeCells z.cells (n * z.cells.size)) hp
      (fun x hx u hu => hon x.2 (by
        simp only [ho, Op.operands, List.mem_toArray, List.mem_map]
        simp; exact ⟨x.1, by simpa using hx⟩) u hu) (fun i hi => .inl (hrd i hi).2) s4 (by simp) (by simp)
      (fun i hi => by rw [getD_rep _ _ _ _ hi, getD_rep _ _ _ _ hi]; exact ⟨by simpa using hzl, hz _⟩) (madeCells_flat _ _)
    have hcl : cells'.size = n * (cx.ty e).dt.cells := by
      rw [← Array.length_toList, g2, flatten_len (k := (cx.ty e).dt.cells) (fun j hj => (g5 j (by omega)).1), g4]
    obtain ⟨m', q1, q2, q3, q4, q5⟩ := lay_row s2 (ups_free hlen hrd hid) (w' := m.w.alloc (.cells cells' e)) (cells := cells') (T := e) (fr := (0, 0)) rfl ⟨rfl, rfl, rfl⟩ (t := (cx.ty e).dt) (l := l) (css := css') (cap := n) (spare := [])
      (by rw [g4, g3]) (fun i hi => g5 i (by omega)) (by simp [g2]) hcl (by omega) (by rw [g3]; unfold LIM; omega) (.inl rfl)
    refine Gives.value (v := .slice (some ⟨m.w.heap.size, 0, none⟩) n n) (w' := m.w.alloc (.cells cells' e)) ?_ ⟨m', q1, ?_, q3, s3.trans q4, ?_⟩
    · have hno : ¬ (n * (cx.ty e).size > 16777216) := by omega
      have hszr : ∀ w, (sizeOf e).run P w = .ok (cx.ty e).size w := known_size hcx hk1
      have hsc : (cx.ty e).size = (cx.ty e).dt.cells := by rw [← i7, hzl]
      have hzr : ∀ w, (zeroValue e).run P w = .ok z w := fun w => by simp [zeroValue, typeInfo, i1, i4]
      have hpp : (parts.map fun x => (x.1, ac.eval x.2)).toList = parts.toList.map fun p => (p.1, ac.eval p.2) := by simp
      by_cases h0 : n * (cx.ty e).size = 0
      · have hm0 : madeCells z.cells (n * z.cells.size) = #[] := by
          rw [i7, h0]; simp [madeCells]
        rw [hm0] at g1
        simp only [execOp, ho, Go.Instr.buildSlice, Sem.run_bind, run_underlying hu, Result.andThen_ok, hszr]
        have hr0 : Array.map (fun x => (#[] : Array Value)[x % (#[] : Array Value).size]!) (Array.range (n * (cx.ty e).size)) = #[] := by rw [h0, Array.range_zero']; simp
        simp only [if_neg hno, if_pos h0, Sem.run_bind, Result.andThen_ok, Sem.run_pure, hpp, hr0]
        rw [hsc, g1]
        simp [newRow]
      · simp only [execOp, ho, Go.Instr.buildSlice, Sem.run_bind, run_underlying hu, Result.andThen_ok, hszr]
        have hmc : (Array.map (fun x => z.cells[x % z.cells.size]!) (Array.range (n * (cx.ty e).size))) = madeCells z.cells (n * z.cells.size) := by unfold madeCells; rw [i7]
        simp only [if_neg hno, if_neg h0, Sem.run_bind, hzr, Result.andThen_ok, Sem.run_pure, hpp, hmc]
        rw [hsc, g1]
        simp [newRow]
    · rw [ups_append]; exact q2
    · rw [g3] at q5; exact q5
  · cases hk

/-! #### Structs and arrays by value -/

theorem setComp_CR {m : M} : ∀ {t : Ty} {cs : List Value} {x : t.El} {j : Nat} {c u w : V}, CR m false t cs x → compV t x j = some c → setComp t x j u = some w → ∀ {d : List Value}, d.length = c.t.cells → u.t.cells = c.t.cells → CR m false u.t d u.x →
    CR m false w.t (cs.take (offOf t j) ++ d ++ cs.drop (offOf t j + c.t.cells)) w.x ∧ Ty.skel c.t u.t = Ty.skel c.t u.t ∧ w.t.isAgg = t.isAgg ∧ w.t.cells = t.cells ∧ offOf t j + c.t.cells ≤ cs.length
  | .pair a b, cs, x, 0, c, u, w, h, hc, hw, d, hd, hu, hr => by
    simp only [compV, Option.some.injEq] at hc; subst hc
    simp only [setComp, Option.some.injEq] at hw; subst hw
    simp only [CR] at h
    obtain ⟨c1, c2, rfl, l1, r1, r2⟩ := h
    simp only at hd hu
    refine ⟨?_, rfl, rfl, by simp [Ty.cells, hu], by simp [offOf, l1]⟩
    simp only [CR, offOf]
    refine ⟨d, c2, ?_, hd.trans hu.symm, hr, r2⟩
    simp [l1, List.drop_append_of_le_length]
  | .pair a b, cs, x, j + 1, c, u, w, h, hc, hw, d, hd, hu, hr => by
    simp only [compV] at hc
    simp only [setComp] at hw
    split at hw
    · rename_i w' hw'
      simp only [Option.some.injEq] at hw; subst hw
      simp only [CR] at h
      obtain ⟨c1, c2, rfl, l1, r1, r2⟩ := h
      obtain ⟨g1, _, g2, g3, g4⟩ := setComp_CR r2 hc hw' hd hu hr
      refine ⟨?_, rfl, rfl, by simp [Ty.cells, g3], by simp [offOf, l1]; omega⟩
      simp only [CR, offOf]
      refine ⟨c1, _, ?_, l1, r1, g1⟩
      rw [← l1, List.take_append, List.drop_append]
      simp [List.take_of_length_le, List.drop_of_length_le, Nat.add_assoc]
    · cases hw
  | .unit, _, _, _, _, _, _, _, hc, _, _, _, _, _ | .int _, _, _, _, _, _, _, _, hc, _, _, _, _, _ | .bool, _, _, _, _, _, _, _, hc, _, _, _, _, _ | .str, _, _, _, _, _, _, _, hc, _, _, _, _, _ | .sl _, _, _, _, _, _, _, _, hc, _, _, _, _, _
  | .arr _ _, _, _, _, _, _, _, _, hc, _, _, _, _, _ | .ip _, _, _, _, _, _, _, _, hc, _, _, _, _, _ | .rf _, _, _, _, _, _, _, _, hc, _, _, _, _, _ | .pt, _, _, _, _, _, _, _, hc, _, _, _, _, _ | .nilS, _, _, _, _, _, _, _, hc, _, _, _, _, _
  | .nilP, _, _, _, _, _, _, _, hc, _, _, _, _, _ | .nilF, _, _, _, _, _, _, _, hc, _, _, _, _, _ | .nilM, _, _, _, _, _, _, _, hc, _, _, _, _, _ | .fn _ _, _, _, _, _, _, _, _, hc, _, _, _, _, _ | .tup _, _, _, _, _, _, _, _, hc, _, _, _, _, _ | .undef, _, _, _, _, _, _, _, hc, _, _, _, _, _ => by
    simp [compV] at hc

theorem fillS_run {m : M} {ev : Operand → Value} {offs : List (Nat × Nat)} :
    ∀ {parts : List (Nat × Operand)} {v v' : V} {cells : Array Value}, fillS offs env v parts = some v' → (∀ x ∈ parts, ∀ u, opnd env x.2 = some u → VR m (ev x.2) u) → CR m false v.t cells.toList v.x → v.t.isAgg = true →
    ∃ cells' : Array Value, Go.Instr.fill (fun i => offs[i]?) cells (parts.map fun p => (p.1, ev p.2)) = some cells' ∧ CR m false v'.t cells'.toList v'.x ∧ v'.t.isAgg = true
  | [], v, v', cells, h, _, hc, ha => by
    simp only [fillS, Option.some.injEq] at h; subst h
    exact ⟨cells, rfl, hc, ha⟩
  | (i, x) :: r, v, v', cells, h, hv, hc, ha => by
    simp only [fillS] at h
    split at h
    · rename_i u c hx hcomp
      split at h
      · rename_i hchk
        simp only [Bool.and_eq_true, decide_eq_true_eq] at hchk
        obtain ⟨⟨k1, k2⟩, k3⟩ := hchk
        split at h
        · rename_i w hw
          have hu := hv (i, x) (by simp) u hx
          have huc := VR_cells hu k2
          have hcl : u.t.cells = c.t.cells := (skel_cells k1).symm
          have hsz : (ev x).cells.size = c.t.cells := by have := huc.len; rw [← hcl]; simpa using this
          obtain ⟨g1, _, g2, g3, g4⟩ := setComp_CR hc hcomp hw (d := (ev x).cells.toList) (by simpa using hsz) hcl huc
          obtain ⟨cells1, f1, f2⟩ := fill_one (place := fun i => offs[i]?) (rest := r.map fun p => (p.1, ev p.2)) (i := i) k3 hsz (by simpa using g4)
          obtain ⟨cells', q1, q2, q3⟩ := fillS_run (v := w) (cells := cells1) h (fun p hp => hv p (by simp [hp])) (by rw [f2]; exact g1) (by rw [g2]; exact ha)
          exact ⟨cells', by rw [List.map_cons, f1]; exact q1, q2, q3⟩
        · cases h
      · cases h
    · cases h

theorem run_mapM {α β : Type} {f : α → Sem β} {g : α → β} {w : World} : ∀ (l : List α), (∀ x ∈ l, (f x).run P w = .ok (g x) w) → (l.mapM f).run P w = .ok (l.map g) w
  | [], _ => by simp
  | x :: l, h => by
    simp only [List.mapM_cons, Sem.run_bind, h x (by simp), Result.andThen_ok, run_mapM l (fun y hy => h y (by simp [hy]))]
    simp

theorem fine_build (hcx : CxOk P cx) {t : TypeId} {parts : Array (Nat × Operand)} (ho : o.op = .build t parts) (h : evC cx env H id (.build t parts) K) : Fine P o env H id K := by
  simp only [evC] at h
  have hparts : ∀ (m : M) (a : Act), OpsOn o m env a → ∀ x ∈ parts.toList, ∀ u, opnd env x.2 = some u → VR m (a.eval x.2) u := fun m a hon x hx u hu => hon x.2 (by
    simp only [ho, Op.operands, List.mem_toArray, List.mem_map]
    simp; exact ⟨x.1, by simpa using hx⟩) u hu
  have hpp : ∀ a : Act, (parts.map fun x => (x.1, a.eval x.2)).toList = parts.toList.map fun p => (p.1, a.eval p.2) := fun a => by simp
  split at h
  · rename_i fs hk
    obtain ⟨hk0, h⟩ := gd_true h
    obtain ⟨v, hv, h⟩ := optK_some h
    simp only [Bool.and_eq_true, List.all_eq_true] at hk0
    obtain ⟨⟨k1, k2⟩, k3⟩ := hk0
    obtain ⟨fields, hu1, hu2⟩ := struct_fields hcx hk
    obtain ⟨inf, z, i1, i2, i3, i4, i5, i6, i7⟩ := (hcx t (by rw [hk]; simp)).inf
    refine ⟨_, h, Good.pure fun m a hs hon _ _ => ?_⟩
    have hz : CR m false (cx.ty t).zt z.cells.toList (cx.ty t).zt.dflt := CR_of_VR (i5 m) (mem_ne k1)
    obtain ⟨cells', g1, g2, g3⟩ := fillS_run (m := m) (ev := a.eval) (v := (cx.ty t).zero) (cells := z.cells) hv (hparts m a hon) hz k2
    refine ⟨.agg cells', ?_, by simp only [VR, g3]; exact ⟨cells', rfl, g2⟩⟩
    have hzr : ∀ w, (zeroValue t).run P w = .ok z w := fun w => by simp [zeroValue, typeInfo, i1, i4]
    have hm : (fields.mapM fun f => (do pure (f.offset, ← sizeOf f.type) : Sem (Nat × Nat))).run P m.w = .ok ((fs.map fun f => (f.1, (cx.ty f.2).size)).toArray) m.w := by
      rw [Array.mapM_eq_mapM_toList]
      simp only [map_eq_pure_bind, Sem.run_bind]
      rw [run_mapM (P := P) (g := fun f : Field => (f.offset, (cx.ty f.type).size)) fields.toList (fun f hf => by
        have hmem : (f.offset, f.type) ∈ fs := by rw [← hu2]; exact List.mem_map.2 ⟨f, hf, rfl⟩
        simp [known_size hcx (k3 _ hmem)])]
      rw [← hu2, List.map_map]; simp
    simp only [execOp, ho, Go.Instr.build, Sem.run_bind, hzr, Result.andThen_ok, run_underlying hu1, hm, hpp]
    rw [show (fun x => ((fs.map fun f => (f.1, (cx.ty f.2).size)).toArray)[x]?) = fun i => (fs.map fun f => (f.1, (cx.ty f.2).size))[i]? from by funext i; simp]
    rw [g1]; simp
  · rename_i n e hk
    obtain ⟨hk0, h⟩ := gd_true h
    simp only [Bool.and_eq_true, decide_eq_true_eq] at hk0
    obtain ⟨⟨k1, k2⟩, k3⟩ := hk0
    obtain ⟨p, hp, h⟩ := optK_some h
    obtain ⟨l, zz⟩ := p
    have hu := elem_arr hcx hk
    obtain ⟨inf, z, i1, i2, i3, i4, i5, i6, i7⟩ := (hcx t (by rw [hk]; simp)).inf
    obtain ⟨infe, ze, j1, j2, j3, j4, j5, j6, j7⟩ := (hcx e (known_ne k1)).inf
    refine ⟨_, h, fun m ac hs hon hlen hrd hfree => ?_⟩
    obtain ⟨S', s1, s2, s3, s4⟩ := hs.freezesL hlen (z := zz) hrd
    have hze : CR m false (cx.ty e).dt ze.cells.toList (cx.ty e).dt.dflt := CR_of_VR (j6 m) (mem_ne k2)
    have hsc : (cx.ty e).size = (cx.ty e).dt.cells := by rw [← j7]; have := hze.len; simpa using this
    have hz := i6 ⟨m.ρ, ups m.H (frzAll H zz), S', m.w⟩
    rw [k3] at hz
    have hzc := CR_of_VR hz (by simp)
    simp only [CR] at hzc
    obtain ⟨_, css, c1, c2, c3⟩ := hzc
    obtain ⟨css', cells', g1, g2, g3, g4, g5⟩ := fillL_run (m1 := ⟨m.ρ, ups m.H (frzAll H zz), S', m.w⟩) hs s1 rfl k2 (ev := ac.eval) (css := css) (cells := z.cells) hp
      (hparts m ac hon) (fun i hi => .inl (hrd i hi).2) s4 (by simp) c2 (fun i hi => by
        have := c3 i hi
        simp only [Ty.dflt] at this
        exact this) c1
    have hzr : ∀ w, (zeroValue t).run P w = .ok z w := fun w => by simp [zeroValue, typeInfo, i1, i4]
    refine Gives.value (v := .agg cells') (w' := m.w) ?_ ⟨⟨m.ρ, ups m.H (frzAll H zz), S', m.w⟩, rfl, rfl, s2, s3, ?_⟩
    · simp only [execOp, ho, Go.Instr.build, Sem.run_bind, hzr, Result.andThen_ok, run_underlying hu, known_size hcx k1, hpp]
      rw [hsc, g1]; simp
    · simp only [VR, Ty.isAgg, CR]
      exact ⟨cells', rfl, g3, css', g2, g4, g5⟩
  · exact h.elim

end
end Go.Abs
