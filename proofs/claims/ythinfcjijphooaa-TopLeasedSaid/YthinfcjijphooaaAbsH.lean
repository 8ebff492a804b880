/- Append. -/
import Derived.Test.YthinfcjijphooaaAbsG
namespace Go.Abs
set_option linter.unusedVariables false
set_option linter.unusedSimpArgs false
open Go

/-- An object is forgotten, and another one is laid in its block. -/
theorem StR.layAt {m : M} (hs : StR m) {i b base0 cap0 : Nat} (hi : i < m.H.length) (hl : (m.H.getD i .none).live) (hρ : m.ρ i = some (b, base0, cap0)) {w' : World} (hsz : w'.heap.size = m.w.heap.size) (hcell : ∀ b' o, b' ≠ b → w'.cell? ⟨b', o, none⟩ = m.w.cell? ⟨b', o, none⟩) (hfr : ∀ b' o, w'.frozen? ⟨b', o, none⟩ = m.w.frozen? ⟨b', o, none⟩) (hio : (w'.os = m.w.os ∧ w'.output = m.w.output ∧ w'.tape = m.w.tape) ∧ ∀ b', b' ≠ b → w'.heap[b']? = m.w.heap[b']?)
    {id : Nat} (hid : m.H[id]? = some .free) (hS : ¬ m.S b) {ob : Obj} {base cap : Nat}
    (hor : m.le ⟨fun j => if j = id then some (b, base, cap) else m.ρ j, (m.H.set i .none).set id ob, m.S, w'⟩ → OR ⟨fun j => if j = id then some (b, base, cap) else m.ρ j, (m.H.set i .none).set id ob, m.S, w'⟩ id ob) :
    StR ⟨fun j => if j = id then some (b, base, cap) else m.ρ j, (m.H.set i .none).set id ob, m.S, w'⟩ ∧ m.le ⟨fun j => if j = id then some (b, base, cap) else m.ρ j, (m.H.set i .none).set id ob, m.S, w'⟩ := by
  have hlt : id < m.H.length := by
    rcases Nat.lt_or_ge id m.H.length with h | h
    · exact h
    · rw [List.getElem?_eq_none h] at hid; cases hid
  have hfree : m.H.getD id .none = .free := by simp [List.getD, hid]
  have hne : id ≠ i := by intro e; subst e; rw [hfree] at hl; exact hl
  have hg : ∀ j, ((m.H.set i .none).set id ob).getD j .none = if j = id then ob else if j = i then .none else m.H.getD j .none := fun j => by
    rw [getD_set (by simpa using hlt), getD_set hi]
  have hle : m.le ⟨fun j => if j = id then some (b, base, cap) else m.ρ j, (m.H.set i .none).set id ob, m.S, w'⟩ := by
    refine ⟨⟨by show _ ≤ w'.heap.size; omega, fun b' hb' ho => ⟨fun ⟨j, j1, j2, base', cap', j3⟩ => ?_, fun o => hcell b' o (fun h => ho (h ▸ ⟨i, hi, hl, base0, cap0, hρ⟩)), fun o => hfr b' o, fun h => h⟩⟩, fun _ h => h, fun b' o v hS' hv => ?_, by simp, fun j hj => ?_, fun j hj => ?_, ⟨hio.1, fun b' _ ho => hio.2 b' (fun h => ho (h ▸ ⟨i, hi, hl, base0, cap0, hρ⟩))⟩⟩
    · simp only [List.length_set] at j1
      simp only [hg] at j2
      simp only at j3
      by_cases h : j = id
      · rw [if_pos h] at j3; simp only [Option.some.injEq, Prod.mk.injEq] at j3
        exact ho (j3.1 ▸ ⟨i, hi, hl, base0, cap0, hρ⟩)
      · rw [if_neg h] at j2 j3
        by_cases h' : j = i
        · rw [if_pos h'] at j2; exact j2.elim
        · rw [if_neg h'] at j2; exact ho ⟨j, j1, j2, base', cap', j3⟩
    · show w'.cell? _ = _; rw [hcell b' o (fun h => hS (h ▸ hS'))]; exact hv
    · by_cases h : j = id
      · subst h; exact .inl hfree
      · right; right; simp only [h, if_false]; exact RStep.refl _ _
    · show OStep _ (((m.H.set i .none).set id ob).getD j .none)
      rw [hg]
      split
      · rename_i h; subst h; rw [hfree]; simp [OStep]
      · split
        · cases m.H.getD j .none <;> simp [OStep]
        · exact OStep.refl _
  refine ⟨⟨fun j hj => ?_, fun j k hj hk hjk lj lk b1 base1 cap1 b2 base2 cap2 rj rk => ?_, fun b' hb => by show b' < w'.heap.size; rw [hsz]; exact hs.bd b' hb⟩, hle⟩
  · simp only [List.length_set] at hj
    show OR _ j (((m.H.set i .none).set id ob).getD j .none)
    rw [hg]
    split
    · rename_i h; subst h; exact hor hle
    · rename_i h
      split
      · trivial
      · rename_i h'
        by_cases hlj : (m.H.getD j .none).live
        · exact OR.go hle (by simp [h]) (by show _ ≤ w'.heap.size; omega) (fun b' base' cap' hr _ => ⟨fun o => hcell b' o (hs.inj j i hj hi h' hlj hl _ _ _ _ _ _ hr hρ), fun o => hfr b' o, fun h => h⟩) (hs.ok j hj)
        · have := hs.ok j hj
          generalize m.H.getD j .none = oj at *
          cases oj <;> simp [Obj.live] at hlj <;> trivial
  · simp only [List.length_set] at hj hk
    simp only [hg] at lj lk
    simp only at rj rk
    have key : ∀ x, x < m.H.length → x ≠ id → (if x = i then Obj.none else m.H.getD x .none).live → ∀ b' base' cap', m.ρ x = some (b', base', cap') → b' ≠ b := by
      intro x hx _ lx b' base' cap' rx
      by_cases h : x = i
      · rw [if_pos h] at lx; exact lx.elim
      · rw [if_neg h] at lx; exact hs.inj x i hx hi h lx hl _ _ _ _ _ _ rx hρ
    by_cases h1 : j = id
    · have h2 : k ≠ id := fun h => hjk (h1.trans h.symm)
      rw [if_pos h1] at rj
      simp only [Option.some.injEq, Prod.mk.injEq] at rj
      rw [if_neg h2] at rk lk
      obtain ⟨rfl, _, _⟩ := rj
      exact (key k hk h2 lk _ _ _ rk).symm
    · rw [if_neg h1] at rj lj
      by_cases h2 : k = id
      · rw [if_pos h2] at rk
        simp only [Option.some.injEq, Prod.mk.injEq] at rk
        obtain ⟨rfl, _, _⟩ := rk
        exact key j hj h1 lj _ _ _ rj
      · rw [if_neg h2] at rk lk
        by_cases h3 : j = i
        · rw [if_pos h3] at lj; exact lj.elim
        · rw [if_neg h3] at lj
          by_cases h4 : k = i
          · rw [if_pos h4] at lk; exact lk.elim
          · rw [if_neg h4] at lk; exact hs.inj j k hj hk hjk lj lk _ _ _ _ _ _ rj rk

theorem growBy_le (newLen : Nat) : ∀ (r c : Nat), c ≤ 2 * newLen + 1000 → Go.Builtin.growBy newLen r c ≤ 2 * newLen + 1000
  | 0, c, h => by simpa [Go.Builtin.growBy] using h
  | r + 1, c, h => by
    unfold Go.Builtin.growBy
    split
    · exact h
    · exact growBy_le newLen r _ (by omega)

theorem nextslicecap_le {need old : Nat} (h : old < need) : Go.Builtin.nextslicecap need old ≤ 2 * need + 1000 := by
  unfold Go.Builtin.nextslicecap
  split
  · omega
  · split
    · omega
    · exact growBy_le _ _ _ (by omega)

section
variable {P : Program} {cx : Ctx} {o : Oper} {env : List V} {H : List Obj} {id : Nat} {K : Eff → Prop}

/-- The source of an append: its cells. -/
theorem src_run {m : M} (hs : StR m) {v : Value} {x : V} {t : Ty} {xs : List t.El} {rd : List Nat} (h : slRead H x t = some (xs, rd)) (hv : VR m v x) (hrd : ∀ i ∈ rd, i < H.length ∧ m.H.getD i .none = H.getD i .none) :
    ∃ css : List (List Value), css.length = xs.length ∧ (∀ i, i < xs.length → (css.getD i []).length = t.cells ∧ CR m false t (css.getD i []) (xs.getD i t.dflt)) ∧
      (∀ w, (Go.Builtin.lenOf v).run P w = .ok xs.length w) ∧ (Go.Builtin.firstCells t.cells xs.length v).run P m.w = .ok css.flatten.toArray m.w ∧ xs.length ≤ LIM := by
  by_cases hst : x.t = .str
  · obtain ⟨xt, xx⟩ := x
    simp only at hst; subst hst
    obtain ⟨s, rfl, rfl, hl⟩ := VR.str hv
    simp only [slRead] at h
    split at h
    · rename_i e
      subst e
      simp only [Option.some.injEq, Prod.mk.injEq] at h
      obtain ⟨rfl, rfl⟩ := h
      have hl2 : List.length (α := (Ty.int .u8).El) (strOf s) = s.data.toList.length := strOf_length s
      have hsz : s.size = s.data.toList.length := Array.length_toList.symm
      refine ⟨s.data.toList.map fun b => [Value.int .u8 (b.toNat : Int)], by rw [hl2]; simp, fun i hi => ?_, fun w => ?_, ?_, by rw [hl2]; exact hl⟩
      rotate_left
      · show (pure s.size : Sem Nat).run P w = _
        rw [hl2, ← hsz]; rfl
      rotate_right 1
      · rw [hl2] at hi
        have h1 : (s.data.toList.map fun b => [Value.int .u8 (b.toNat : Int)]).getD i [] = [Value.int .u8 ((s.data.toList[i]).toNat : Int)] := by rw [List.getD_eq_getElem?_getD, List.getElem?_map, List.getElem?_eq_getElem hi]; rfl
        have h2 : List.getD (strOf s) i (Ty.int .u8).dflt = ((s.data.toList[i]).toNat : Int) := by show List.getD (strOf s) i 0 = _; unfold strOf; rw [List.getD_eq_getElem?_getD, List.getElem?_map, List.getElem?_eq_getElem hi]; rfl
        rw [h1]
        refine ⟨rfl, ?_⟩
        simp only [CR]
        erw [h2]
        exact ⟨rfl, inK_byte _⟩
      · simp only [Go.Builtin.firstCells]
        have he : s.extract 0 (List.length (α := (Ty.int .u8).El) (strOf s)) = s := by
          rw [hl2, ← hsz]; apply ByteArray.ext; simp [ByteArray.data_extract]
        rw [he]
        simp only [Sem.run_pure]
        congr 1
        apply Array.toList_inj.1
        rw [show (s.data.toList.map fun b => [Value.int .u8 (b.toNat : Int)]) = (s.data.toList.map fun b => Value.int .u8 (b.toNat : Int)).map (fun v => [v]) by simp, single_flat]
        simp
    · cases h
  · obtain ⟨a, c, rfl, h1, h2, h3⟩ := slRead_at hs h hv hrd hst
    by_cases h0 : xs.length = 0
    · have hx0 : xs = [] := List.eq_nil_of_length_eq_zero h0
      subst hx0
      refine ⟨[], rfl, by simp, fun w => by simp [Go.Builtin.lenOf], ?_, by simp⟩
      cases a <;> simp [Go.Builtin.firstCells, loadCells, loadCellsFrom]
    · obtain ⟨b, off, ds, e1, _⟩ := h3 0 (by omega)
      subst e1
      obtain ⟨css, c1, c2, c3⟩ := row_cells (m := m) (t := t) (b := b) (base := off) xs 0 (fun i hi => by
        obtain ⟨b', o', ds, q1, q2, q3, q4⟩ := h3 i hi
        simp only [Option.some.injEq, Addr.mk.injEq] at q1
        obtain ⟨rfl, rfl, _⟩ := q1
        exact ⟨ds, q2, by simpa using q3, q4⟩)
      refine ⟨css, c1, c3, fun w => by simp [Go.Builtin.lenOf], ?_, h2⟩
      have hlen : css.flatten.length = xs.length * t.cells := by rw [flatten_len (k := t.cells) (fun j hj => (c3 j (by omega)).1), c1]
      have := run_loadCells_list (P := P) m.w ⟨b, off, none⟩ css.flatten (fun j v hj => by
        rw [add_off]; have := c2 j v hj; simpa using this)
      rw [hlen] at this
      simp only [Go.Builtin.firstCells, this]

theorem run_append_place {w : World} {ts tx ty e n len c size : Nat} {b off : Nat} {vx : Value} {news : List Value} {d : TypeDesc} (hu : P.underlying ts = some (.slice e)) (hux : P.underlying tx = some d) (hni : ∀ k, d ≠ .int k) (hz : ∀ w, (sizeOf e).run P w = .ok size w)
    (hl : ∀ w, (Go.Builtin.lenOf vx).run P w = .ok n w) (hf : (Go.Builtin.firstCells size n vx).run P w = .ok news.toArray w) (hc : len + n ≤ c)
    (h1 : ∀ x ∈ news, x.oneCell' = true) (hcell : ∀ j, j < news.length → (w.cell? ⟨b, off + len * size + j, none⟩).isSome = true) (hfr : ∀ j, j < news.length → w.frozen? ⟨b, off + len * size + j, none⟩ = false) (rest : List TypeId) :
    (Go.Builtin.append_ (ts :: tx :: rest).toArray ty #[.slice (some ⟨b, off, none⟩) len c, vx]).run P w = .ok (.slice (some ⟨b, off, none⟩) (len + n) c) (w.setCells b (off + len * size) news) := by
  have hst := run_storeCells_cells (P := P) b (off + len * size) news 0 w (by simpa using hcell) (by simpa using hfr) h1
  have hzf : (match d with | .int _ => true | _ => false) = false := by
    cases d <;> simp at hni ⊢
  have hst' : (storeCells ⟨b, off + len * size, none⟩ news).run P w = .ok () (w.setCells b (off + len * size) news) := by simpa using hst
  simp only [Go.Builtin.append_]
  simp [run_underlying hu, run_underlying hux, hz]
  cases d <;> first | (simp [hl, hc, hf, add_off, hst']; done) | (exfalso; exact hni _ rfl)

end
end Go.Abs
