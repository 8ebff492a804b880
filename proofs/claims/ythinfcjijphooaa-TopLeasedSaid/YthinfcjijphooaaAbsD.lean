/- Objects that are laid. -/
import Derived.Laws.MakeOwn
import Derived.Laws.IdiomStrings
import Derived.Test.YthinfcjijphooaaAbsC
namespace Go.Abs
set_option linter.unusedVariables false
set_option linter.unusedSimpArgs false
open Go

theorem ups_append (H : List Obj) (a b : List (Nat × Obj)) : ups H (a ++ b) = ups (ups H a) b := by
  induction a generalizing H with
  | nil => rfl
  | cons x a ih => obtain ⟨i, o⟩ := x; simp [ups, ih]

theorem VR.ref {m : M} {t : Ty} {id n c b cap : Nat} {l : List t.El} {fz : Bool} (hid : m.H[id]? = some (.row t l fz)) (hn : n = l.length) (hc : n ≤ c) (hl : n ≤ LIM) (hρ : m.ρ id = some (b, 0, cap)) (hcap : c ≤ cap) :
    VR m (.slice (some ⟨b, 0, none⟩) n c) ⟨.rf t, (id, none)⟩ := by
  have hlt : id < m.H.length := by
    rcases Nat.lt_or_ge id m.H.length with h | h
    · exact h
    · rw [List.getElem?_eq_none h] at hid; cases hid
  simp only [VR, Ty.isAgg, CR]
  refine ⟨_, n, c, rfl, hc, hl, hlt, ?_⟩
  rw [getD_some hid]
  exact ⟨rfl, hn, .inr ⟨b, 0, cap, hρ, rfl, hcap⟩⟩

/-- A row in a new block. -/
theorem lay_row {m : M} (hs : StR m) {id : Nat} (hid : m.H[id]? = some .free) {w' : World} {cells : Array Value} {T : TypeId} {fr : Nat × Nat} (hw : w'.heap = m.w.heap.push (.cells cells T fr)) (hio : w'.os = m.w.os ∧ w'.output = m.w.output ∧ w'.tape = m.w.tape)
    {t : Ty} {l : List t.El} {css : List (List Value)} {cap : Nat} {spare : List Value} (h1 : css.length = l.length)
    (h2 : ∀ i, i < l.length → (css.getD i []).length = t.cells ∧ CR m false t (css.getD i []) (l.getD i t.dflt)) (h3 : cells.toList = css.flatten ++ spare) (h4 : cells.size = cap * t.cells) (h5 : l.length ≤ cap) (h6 : l.length ≤ LIM)
    (hfr : fr.1 = fr.2 ∨ cells.size ≤ fr.1) :
    ∃ m' : M, m'.w = w' ∧ m'.H = m.H.set id (.row t l false) ∧ StR m' ∧ m.le m' ∧ VR m' (.slice (some ⟨m.w.heap.size, 0, none⟩) l.length cap) ⟨.rf t, (id, none)⟩ := by
  have hg : Grows m.w w' := ⟨by rw [hw]; simp, fun b hb => by rw [hw, Array.getElem?_push]; simp [Nat.ne_of_lt hb], hio⟩
  have hcell : ∀ j, w'.cell? ⟨m.w.heap.size, j, none⟩ = cells[j]? := fun j => by simp [World.cell?, hw]
  have hfz : ∀ j, j < cells.size → w'.frozen? ⟨m.w.heap.size, j, none⟩ = false := fun j hj => by
    obtain ⟨lo, hi⟩ := fr
    simp [World.frozen?, hw]
    simp at hfr
    omega
  have hlt : id < m.H.length := by
    rcases Nat.lt_or_ge id m.H.length with h | h
    · exact h
    · rw [List.getElem?_eq_none h] at hid; cases hid
  obtain ⟨hs', hle⟩ := hs.lay hg hid (ob := .row t l false) (r := some (m.w.heap.size, 0, cap)) (fun b base c h => by simp only [Option.some.injEq, Prod.mk.injEq] at h; omega) (fun hle => by
    simp only [OR]
    right
    refine ⟨m.w.heap.size, 0, cap, by simp, by rw [hw]; simp, h5, h6, fun k hk => ?_, ?_⟩
    · obtain ⟨g1, g2⟩ := h2 k hk
      refine ⟨css.getD k [], g1, ?_, g2.mono hle⟩
      have hat : At w' m.w.heap.size 0 css.flatten := fun j v hj => by
        simp only [Nat.zero_add]
        rw [hcell, ← Array.getElem?_toList, h3, List.getElem?_append_left (by
          rcases Nat.lt_or_ge j css.flatten.length with h | h
          · exact h
          · rw [List.getElem?_eq_none h] at hj; cases hj)]
        exact hj
      exact getD_flat hat (by omega) (fun j hj => (h2 j (by omega)).1)
    · refine ⟨fun hS => Nat.lt_irrefl _ (hs.bd _ hS), fun j hj => ?_⟩
      have hj' : j < cells.size := by omega
      refine ⟨⟨cells[j], ?_⟩, ?_⟩
      · simp only [Nat.zero_add]; rw [hcell]; simp [hj']
      · simp only [Nat.zero_add]; exact hfz j hj')
  refine ⟨_, rfl, rfl, hs', hle, ?_⟩
  exact VR.ref (l := l) (fz := false) (cap := cap) (by show (m.H.set id _)[id]? = _; simp [hlt]) rfl h5 h6 (by simp) (Nat.le_refl _)

/-- A variable in a new block. -/
theorem lay_box {m : M} (hs : StR m) {id : Nat} (hid : m.H[id]? = some .free) {w' : World} {cells : Array Value} {T : TypeId} (hw : w'.heap = m.w.heap.push (.cells cells T (0, 0))) (hio : w'.os = m.w.os ∧ w'.output = m.w.output ∧ w'.tape = m.w.tape)
    {v : V} (h : CR m false v.t cells.toList v.x) :
    ∃ m' : M, m'.w = w' ∧ m'.H = m.H.set id (.box v false) ∧ StR m' ∧ m.le m' ∧ VR m' (.pointer (some ⟨m.w.heap.size, 0, none⟩)) ⟨.pt, (id, [])⟩ := by
  have hg : Grows m.w w' := ⟨by rw [hw]; simp, fun b hb => by rw [hw, Array.getElem?_push]; simp [Nat.ne_of_lt hb], hio⟩
  have hcell : ∀ j, w'.cell? ⟨m.w.heap.size, j, none⟩ = cells[j]? := fun j => by simp [World.cell?, hw]
  have hfz : ∀ j, w'.frozen? ⟨m.w.heap.size, j, none⟩ = false := fun j => by simp [World.frozen?, hw]
  have hlt : id < m.H.length := by
    rcases Nat.lt_or_ge id m.H.length with h | h
    · exact h
    · rw [List.getElem?_eq_none h] at hid; cases hid
  obtain ⟨hs', hle⟩ := hs.lay hg hid (ob := .box v false) (r := some (m.w.heap.size, 0, 0)) (fun b base c h => by simp only [Option.some.injEq, Prod.mk.injEq] at h; omega) (fun hle => by
    simp only [OR]
    refine ⟨m.w.heap.size, 0, 0, cells.toList, by simp, by rw [hw]; simp, fun j v hj => ?_, h.mono hle, fun hS => Nat.lt_irrefl _ (hs.bd _ hS), fun j hj => ⟨⟨cells[j]'(by simpa using hj), ?_⟩, ?_⟩⟩
    · simp only [Nat.zero_add]; rw [hcell]; simpa using hj
    · simp only [Nat.zero_add]; rw [hcell]; simp at hj; simp [hj]
    · simp only [Nat.zero_add]; exact hfz j)
  refine ⟨_, rfl, rfl, hs', hle, ?_⟩
  refine VR.mk_pt (by simpa using hlt) (.inr ⟨?_, 0, 0, by simp, by simp [pathOff]⟩)
  show okO ((m.H.set id _).getD id .none) []
  rw [getD_set hlt]; simp [okO, okT]

section
variable {P : Program} {cx : Ctx} {o : Oper} {env : List V} {H : List Obj} {id : Nat} {K : Eff → Prop}

theorem mem_ne {t : Ty} (h : t.mem = true) : t ≠ .undef := by intro e; rw [e] at h; simp [Ty.mem] at h

theorem fine_alloc (hcx : CxOk P cx) {t : TypeId} (ho : o.op = .alloc t) (h : evC cx env H id (.alloc t) K) : Fine P o env H id K := by
  simp only [evC] at h
  obtain ⟨hkn, h⟩ := gd_true h
  simp only [Bool.and_eq_true] at hkn
  obtain ⟨inf, z, i1, i2, i3, i4, i5, i6, i7⟩ := (hcx t (known_ne hkn.1)).inf
  refine ⟨_, h, fun m a hs hon hlen hrd hfree => ?_⟩
  have hid := hfree (by rw [ho]; rfl)
  have hz := i5 m
  obtain ⟨m', g1, g2, g3, g4, g5⟩ := lay_box hs hid (w' := m.w.alloc (.cells z.cells t)) (cells := z.cells) (T := t) rfl ⟨rfl, rfl, rfl⟩ (v := (cx.ty t).zero) (CR_of_VR hz (mem_ne hkn.2))
  refine Gives.value (v := .pointer (some ⟨m.w.heap.size, 0, none⟩)) (w' := m.w.alloc (.cells z.cells t)) ?_ ⟨m', g1, g2, g3, g4, g5⟩
  simp [execOp, ho, Go.Instr.alloc, zeroValue, typeInfo, i1, i4, newVar, newRow]

theorem fine_box (hcx : CxOk P cx) {t : TypeId} {x : Operand} (ho : o.op = .box t x) (h : evC cx env H id (.box t x) K) : Fine P o env H id K := by
  simp only [evC] at h
  obtain ⟨v, hx, h⟩ := optK_some h
  obtain ⟨hf, h⟩ := gd_true h
  obtain ⟨_, _, hm⟩ := fits_run (P := P) hcx hf
  refine ⟨_, h, fun m a hs hon hlen hrd hfree => ?_⟩
  have hid := hfree (by rw [ho]; rfl)
  have hv := hon x (by simp [ho, Op.operands]) _ hx
  obtain ⟨vt, vx⟩ := v
  obtain ⟨m', g1, g2, g3, g4, g5⟩ := lay_box hs hid (w' := m.w.alloc (.cells (a.eval x).cells t)) (cells := (a.eval x).cells) (T := t) rfl ⟨rfl, rfl, rfl⟩ (v := ⟨vt, vx⟩) (CR_of_VR hv (mem_ne hm))
  refine Gives.value (v := .pointer (some ⟨m.w.heap.size, 0, none⟩)) (w' := m.w.alloc (.cells (a.eval x).cells t)) ?_ ⟨m', g1, g2, g3, g4, g5⟩
  simp [execOp, ho, Go.Instr.box, newVar, newRow]

theorem single_flat : ∀ (l : List Value), (l.map fun v => [v]).flatten = l
  | [] => rfl
  | v :: l => by simp [single_flat l]

theorem fine_toBytes (hcx : CxOk P cx) {src dst e : TypeId} {x : Operand} (ho : o.op = .convert src dst x) (hk : (cx.ty dst).kind = .slice e) (h : evC cx env H id (.convert src dst x) K) : Fine P o env H id K := by
  simp only [evC] at h
  obtain ⟨v, hx, h⟩ := optK_some h
  unfold convV at h
  rw [hk] at h
  simp only at h
  split at h
  · rename_i l hke
    obtain ⟨hkn, h⟩ := gd_true h
    have hkn : (cx.ty src).kind = .str := by simpa using hkn
    have hs0 := elem_str hcx hkn
    have hd := elem_slice hcx hk
    have he := elem_int hcx hke
    refine ⟨_, h, fun m a hs hon hlen hrd hfree => ?_⟩
    have hid := hfree (by rw [ho]; rfl)
    have hv := hon x (by simp [ho, Op.operands]) _ hx
    obtain ⟨s, e1, e2, e3⟩ := VR.str hv
    subst e2
    have hr := run_bytes_of_string (P := P) m.w src dst e s hs0 hd he
    generalize hcap : grownCap m.w s.size 0 e = cap at hr
    have hcs : s.size ≤ cap := by rw [← hcap]; unfold grownCap; simp [Question.cut]
    have hsz : s.size = s.data.toList.length := Array.length_toList.symm
    have hl2 : List.length (α := (Ty.int .u8).El) (strOf s) = s.data.toList.length := strOf_length s
    obtain ⟨m', g1, g2, g3, g4, g5⟩ := lay_row hs hid (w' := m.w.drew.alloc (.cells (bytesRow s cap) e ((bytesRow s cap).size, (bytesRow s cap).size + 1))) (cells := bytesRow s cap) (T := e) (fr := ((bytesRow s cap).size, (bytesRow s cap).size + 1)) rfl ⟨rfl, rfl, rfl⟩
      (t := .int .u8) (l := strOf s) (css := (s.data.toList.map fun b => [Value.int .u8 (b.toNat : Int)])) (cap := cap) (spare := List.replicate (cap - s.size) (.int .u8 0))
      (by rw [hl2]; simp) (fun i hi => by
        rw [hl2] at hi
        have h1 : (s.data.toList.map fun b => [Value.int .u8 (b.toNat : Int)]).getD i [] = [Value.int .u8 ((s.data.toList[i]).toNat : Int)] := by rw [List.getD_eq_getElem?_getD, List.getElem?_map, List.getElem?_eq_getElem hi]; rfl
        have h2 : List.getD (strOf s) i (Ty.int .u8).dflt = ((s.data.toList[i]).toNat : Int) := by show List.getD (strOf s) i 0 = _; unfold strOf; rw [List.getD_eq_getElem?_getD, List.getElem?_map, List.getElem?_eq_getElem hi]; rfl
        rw [h1]
        refine ⟨rfl, ?_⟩
        simp only [CR]
        erw [h2]
        exact ⟨rfl, inK_byte _⟩)
      (by simp [bytesRow]; rw [show (s.data.toList.map fun b => [Value.int .u8 (b.toNat : Int)]) = (s.data.toList.map fun b => Value.int .u8 (b.toNat : Int)).map (fun v => [v]) by simp, single_flat]) (by simp [bytesRow, Ty.cells]; have : s.data.size = s.size := rfl; omega) (by rw [hl2]; omega) (by rw [hl2]; exact e3) (.inr (Nat.le_refl _))
    refine Gives.value (v := .slice (some ⟨m.w.heap.size, 0, none⟩) s.size cap) (w' := m.w.drew.alloc (.cells (bytesRow s cap) e ((bytesRow s cap).size, (bytesRow s cap).size + 1))) ?_ ⟨m', g1, g2, g3, g4, ?_⟩
    · simp only [execOp, ho, e1, Sem.run_bind, hr]; rfl
    · rw [hsz, ← hl2]; exact g5
  · exact h.elim

/-! #### Rows of zero values, literals -/

theorem madeCells_flat (z : Array Value) : ∀ c, (madeCells z (c * z.size)).toList = (List.replicate c z.toList).flatten := by
  intro c
  by_cases hz : z.size = 0
  · have : z = #[] := by simpa using hz
    subst this; simp [madeCells]
  apply List.ext_getElem?
  intro i
  have hlen : ∀ c, (List.replicate c z.toList).flatten.length = c * z.size := fun c => by
    rw [flatten_len (k := z.size) (fun i hi => by simp at hi; simp [List.getD, hi])]; simp
  rcases Nat.lt_or_ge i (c * z.size) with h | h
  · have hq : i / z.size < c := by rw [Nat.div_lt_iff_lt_mul (by omega)]; exact h
    have hm : i % z.size < z.size := Nat.mod_lt _ (by omega)
    obtain ⟨p, q, e1, e2⟩ := flatten_split (css := List.replicate c z.toList) (i := i / z.size) (k := z.size) (by simpa using hq) (fun j hj => by simp at hj; simp [List.getD, hj])
    have e3 : (List.replicate c z.toList).getD (i / z.size) [] = z.toList := by simp [List.getD, hq]
    rw [e3] at e1
    rw [e1, List.append_assoc, List.getElem?_append_right (by rw [e2]; exact Nat.div_mul_le_self i z.size), e2, List.getElem?_append_left (by have := Nat.div_add_mod' i z.size; simp; omega)]
    have : i - i / z.size * z.size = i % z.size := by have := Nat.div_add_mod' i z.size; omega
    rw [this]
    simp [madeCells, h, hm]
  · rw [List.getElem?_eq_none (by simp [madeCells]; exact h), List.getElem?_eq_none (by rw [hlen]; exact h)]

theorem getD_rep {α : Type} (n i : Nat) (x d : α) (h : i < n) : (List.replicate n x).getD i d = x := by simp [List.getD, h]

theorem fine_makeSlice (hcx : CxOk P cx) {t : TypeId} {x y : Operand} (ho : o.op = .makeSlice t x y) (h : evC cx env H id (.makeSlice t x y) K) : Fine P o env H id K := by
  simp only [evC] at h
  split at h
  · rename_i a b hx hy
    split at h
    · rename_i kn n kc c hn hc
      obtain ⟨hk, h⟩ := gd_true h
      obtain ⟨h0, h⟩ := gd_true h
      have hn := V.int?_some hn; have hc := V.int?_some hc
      subst hn; subst hc
      split at hk
      · rename_i e hke
        have hel : cx.elem t = e := by simp [Ctx.elem, hke]
        rw [hel] at h h0
        simp only [Bool.and_eq_true, decide_eq_true_eq, capOk] at h0 hk
        obtain ⟨⟨h1, h2⟩, h3⟩ := h0
        have hu := elem_slice hcx hke
        obtain ⟨inf, z, i1, i2, i3, i4, i5, i6, i7⟩ := (hcx e (known_ne hk.1)).inf
        refine ⟨_, h, fun m ac hs hon hlen hrd hfree => ?_⟩
        have hid := hfree (by rw [ho]; rfl)
        obtain ⟨e1, q1⟩ := VR.int (hon x (by simp [ho, Op.operands]) _ hx)
        obtain ⟨e2, q2⟩ := VR.int (hon y (by simp [ho, Op.operands]) _ hy)
        have hb : (inf.bytes : Int) * c ≤ 281474976710656 := by
          rw [i3]
          have : (2 * c.toNat + 1000) * ((cx.ty e).bytes + 1) = 2 * (c.toNat * (cx.ty e).bytes) + 2 * c.toNat + 1000 * ((cx.ty e).bytes + 1) := by
            rw [Nat.add_mul, Nat.mul_add, Nat.mul_assoc]; omega
          rw [this] at h3
          have h4 : c = (c.toNat : Int) := by omega
          rw [h4, ← Int.natCast_mul, Nat.mul_comm]; omega
        have hcl : c.toNat ≤ 140737488355328 := by
          have : 2 * c.toNat + 1000 ≤ (2 * c.toNat + 1000) * ((cx.ty e).bytes + 1) := Nat.le_mul_of_pos_right _ (by omega)
          omega
        have hr := run_make (P := P) m.w t e inf z hu i1 i4 kn kc n c h1 h2 hb (by omega)
        have hz : CR m false (cx.ty e).dt z.cells.toList (cx.ty e).dt.dflt := CR_of_VR (i6 m) (mem_ne hk.2)
        have hzl : z.cells.size = (cx.ty e).dt.cells := by have := hz.len; simpa using this
        have hsz : inf.size = z.cells.size := i2.trans i7.symm
        obtain ⟨m', g1, g2, g3, g4, g5⟩ := lay_row hs hid (w' := m.w.alloc (.cells (madeCells z.cells (c.toNat * inf.size)) e)) (cells := madeCells z.cells (c.toNat * inf.size)) (T := e) (fr := (0, 0)) rfl ⟨rfl, rfl, rfl⟩
          (t := (cx.ty e).dt) (l := List.replicate n.toNat (cx.ty e).dt.dflt) (css := List.replicate n.toNat z.cells.toList) (cap := c.toNat) (spare := (List.replicate (c.toNat - n.toNat) z.cells.toList).flatten)
          (by simp) (fun i hi => by
            simp only [List.length_replicate] at hi
            rw [getD_rep _ _ _ _ hi, getD_rep _ _ _ _ hi]
            exact ⟨by simpa using hzl, hz⟩)
          (by rw [hsz, madeCells_flat, ← List.flatten_append, List.replicate_append_replicate]; congr 2; omega) (by rw [hsz, ← Array.length_toList, madeCells_flat, flatten_len (k := z.cells.size) (fun i hi => by simp at hi; simp [List.getD, hi]), hzl]; simp) (by simp; omega) (by simp; unfold LIM; omega) (.inl rfl)
        refine Gives.value (v := .slice (some ⟨m.w.heap.size, 0, none⟩) n.toNat c.toNat) (w' := m.w.alloc (.cells (madeCells z.cells (c.toNat * inf.size)) e)) ?_ ⟨m', g1, ?_, g3, g4, ?_⟩
        · simp only [execOp, ho, e1, e2, Sem.run_bind, hr]; rfl
        · exact g2
        · simpa using g5
      · cases hk
    · exact h.elim
  · exact h.elim

end
end Go.Abs
