/- Parts that are written. -/
import Derived.Test.YthinfcjijphooaaAbsE
namespace Go.Abs
set_option linter.unusedVariables false
set_option linter.unusedSimpArgs false
open Go

theorem skel_setComp : ∀ {t : Ty} {x : t.El} {j : Nat} {p q w : V}, compV t x j = some p → Ty.skel p.t q.t = true → setComp t x j q = some w → Ty.skel t w.t = true
  | .pair a b, x, 0, p, q, w, h, hs, hw => by
    simp only [compV, Option.some.injEq] at h; subst h
    simp only [setComp, Option.some.injEq] at hw; subst hw
    simp only [Ty.skel, Bool.and_eq_true]; exact ⟨hs, skel_refl b⟩
  | .pair a b, x, j + 1, p, q, w, h, hs, hw => by
    simp only [compV] at h
    simp only [setComp] at hw
    split at hw
    · rename_i w' hw'
      simp only [Option.some.injEq] at hw; subst hw
      simp only [Ty.skel, Bool.and_eq_true]; exact ⟨skel_refl a, skel_setComp h hs hw'⟩
    · cases hw
  | .unit, _, _, _, _, _, hc, _, _ | .int _, _, _, _, _, _, hc, _, _ | .bool, _, _, _, _, _, hc, _, _ | .str, _, _, _, _, _, hc, _, _ | .sl _, _, _, _, _, _, hc, _, _ | .arr _ _, _, _, _, _, _, hc, _, _
  | .ip _, _, _, _, _, _, hc, _, _ | .rf _, _, _, _, _, _, hc, _, _ | .pt, _, _, _, _, _, hc, _, _ | .nilS, _, _, _, _, _, hc, _, _ | .nilP, _, _, _, _, _, hc, _, _ | .nilF, _, _, _, _, _, hc, _, _
  | .nilM, _, _, _, _, _, hc, _, _ | .fn _ _, _, _, _, _, _, hc, _, _ | .tup _, _, _, _, _, _, hc, _, _ | .undef, _, _, _, _, _, hc, _, _ => by simp [compV] at hc

theorem splice_in {p c q d : List Value} {o : Nat} (h : o + d.length ≤ c.length) :
    p ++ (c.take o ++ d ++ c.drop (o + d.length)) ++ q = (p ++ c ++ q).take (p.length + o) ++ d ++ (p ++ c ++ q).drop (p.length + o + d.length) := by
  rw [List.append_assoc p c q, List.take_append, List.drop_append]
  rw [List.take_append_of_le_length (by omega), show p.length + o - p.length = o by omega, show p.length + o + d.length - p.length = o + d.length by omega, List.drop_append_of_le_length h]
  simp [List.take_of_length_le, List.drop_of_length_le, Nat.add_assoc]

theorem take_pre {α : Type} (p c q : List α) : (p ++ c ++ q).take p.length = p := by rw [List.append_assoc, List.take_left]
theorem drop_post {α : Type} (p c q : List α) : (p ++ c ++ q).drop (p.length + c.length) = q := by rw [← List.length_append, List.drop_left]

theorem deepAs_CR {m m1 : M} (hs : StR m) (hS : ∀ b, m.S b → m1.S b) (hw : m1.w = m.w) {H : List Obj} {x : V} {t : Ty} {y : t.El} {z : List Nat} {cs : List Value} (h : CR m false x.t cs x.x) (hd : deepAs H x t = some (y, z))
    (hrd : ∀ i ∈ z, Sim (m.H.getD i .none) (H.getD i .none)) (hF : ∀ i ∈ z, ∀ b base cap, m.ρ i = some (b, base, cap) → (m.H.getD i .none).live → m1.S b) : CR m1 false t cs y := by
  unfold deepAs at hd
  split at hd
  · rename_i u p e1
    split at hd
    · rename_i y' e2
      simp only [Option.some.injEq, Prod.mk.injEq] at hd
      obtain ⟨rfl, rfl⟩ := hd
      exact (co_CR (dv_CR hs hS hw h e1 hrd hF).1 e2).1
    · cases hd
  · cases hd

/-- A part is written: what the cells tell then. -/
theorem setV_CR {m m1 : M} (hs1 : StR m1) (hle : m.le m1) (hw : m1.w = m.w) {H : List Obj} {u : V} {d : List Value} (hd : CR m false u.t d u.x) :
    ∀ {path : List Stp} {t : Ty} {x : t.El} {cs : List Value} {q : V} {z : List Nat}, CR m false t cs x → okT t path → setV H ⟨t, x⟩ path u = some (q, z) →
    (∀ i ∈ z, Sim (m1.H.getD i .none) (H.getD i .none)) → (∀ i ∈ z, ∀ b base cap, m1.ρ i = some (b, base, cap) → (m1.H.getD i .none).live → m1.S b) →
    CR m1 false q.t (cs.take (pathOff path) ++ d ++ cs.drop (pathOff path + d.length)) q.x ∧ Ty.skel t q.t = true ∧ pathOff path + d.length ≤ cs.length
  | [], t, x, cs, q, z, h, _, hq, _, _ => by
    simp only [setV] at hq
    split at hq
    · rename_i hsk
      simp only [Option.some.injEq, Prod.mk.injEq] at hq
      obtain ⟨rfl, rfl⟩ := hq
      have e : cs.length = d.length := by rw [h.len, hd.len, skel_cells hsk]
      refine ⟨?_, hsk, by simp [pathOff]; omega⟩
      simp only [pathOff, List.take_zero, List.nil_append, Nat.zero_add]
      rw [List.drop_of_length_le (by omega), List.append_nil]
      exact hd.mono hle
    · cases hq
  | .fld off j :: r, t, x, cs, q, z, h, hk, hq, hrd, hF => by
    simp only [setV] at hq
    split at hq
    · rename_i hoff
      split at hq
      · rename_i p hp
        split at hq
        · rename_i q' z' hq'
          split at hq
          · rename_i w hw'
            simp only [Option.some.injEq, Prod.mk.injEq] at hq
            obtain ⟨rfl, rfl⟩ := hq
            obtain ⟨pre, c, post, e1, e2, e3, e4, e5⟩ := compV_cells h hp
            simp only [okT, e5] at hk
            obtain ⟨g1, g2, g3⟩ := setV_CR hs1 hle hw hd (path := r) (t := p.t) (x := p.x) (cs := c) e4 hk.2 hq' hrd hF
            have hlen : (c.take (pathOff r) ++ d ++ c.drop (pathOff r + d.length)).length = p.t.cells := by
              simp only [List.length_append, List.length_take, List.length_drop]; omega
            obtain ⟨k1, _, k2, k3, k4⟩ := setComp_CR (h.mono hle) hp hw' hlen (skel_cells g2).symm g1
            refine ⟨?_, skel_setComp hp g2 hw', ?_⟩
            · have e6 : cs.take (offOf t j) ++ (c.take (pathOff r) ++ d ++ c.drop (pathOff r + d.length)) ++ cs.drop (offOf t j + p.t.cells) = cs.take (pathOff (.fld off j :: r)) ++ d ++ cs.drop (pathOff (.fld off j :: r) + d.length) := by
                have t1 : cs.take (offOf t j) = pre := by rw [e1, ← e2, take_pre]
                have t2 : cs.drop (offOf t j + p.t.cells) = post := by rw [e1, ← e2, ← e3, drop_post]
                rw [t1, t2, splice_in g3, ← e1]
                simp only [pathOff]; rw [← hk.1, ← e2]
              rw [← e6]; exact k1
            · simp only [pathOff]
              have : cs.length = pre.length + c.length + post.length := by rw [e1]; simp only [List.length_append]
              rw [← hk.1, ← e2]; omega
          · cases hq
        · cases hq
      · cases hq
    · cases hq
  | .idx sz i :: r, t, x, cs, q, z, h, hk, hq, hrd, hF => by
    cases t <;> simp only [okT] at hk
    rename_i n t
    simp only [setV] at hq
    split at hq
    · split at hq
      · rename_i q' z' hq'
        split at hq
        · rename_i y z2 hy
          simp only [Option.some.injEq, Prod.mk.injEq] at hq
          obtain ⟨rfl, rfl⟩ := hq
          simp only [CR] at h
          obtain ⟨h0, css, rfl, hl, hi⟩ := h
          obtain ⟨g1, g2, g3⟩ := setV_CR hs1 hle hw hd (path := r) (t := t) (cs := css.getD i []) (hi i hk.2.1).2 hk.2.2 hq' (fun j hj => hrd j (by simp [hj])) (fun j hj => hF j (by simp [hj]))
          have hci := (hi i hk.2.1).1
          have hlen : ((css.getD i []).take (pathOff r) ++ d ++ (css.getD i []).drop (pathOff r + d.length)).length = t.cells := by
            simp only [List.length_append, List.length_take, List.length_drop]; omega
          have hy' := deepAs_CR hs1 (fun _ h => h) rfl (m1 := m1) g1 hy (fun j hj => hrd j (by simp [hj])) (fun j hj => hF j (by simp [hj]))
          obtain ⟨p, q2, f1, f2⟩ := flatten_split (css := css) (i := i) (k := t.cells) (by omega) (fun j hj => (hi j (by omega)).1)
          have hle2 : css.flatten.length = n * t.cells := by rw [flatten_len (k := t.cells) (fun j hj => (hi j (by omega)).1), hl]
          refine ⟨?_, by simp [Ty.skel], ?_⟩
          · simp only [CR]
            refine ⟨(List.length_set (α := t.El)).trans h0, css.set i ((css.getD i []).take (pathOff r) ++ d ++ (css.getD i []).drop (pathOff r + d.length)), ?_, by simpa using hl, fun j hj => ?_⟩
            · rw [← set_flat (by omega) (fun j hj => (hi j (by omega)).1) hlen]
              have t1 : css.flatten.take (i * t.cells) = p := by rw [f1, ← f2, take_pre]
              have t2 : css.flatten.drop (i * t.cells + t.cells) = q2 := by
                have e0 : i * t.cells + t.cells = p.length + (css.getD i []).length := by rw [f2, hci]
                rw [e0]
                conv => lhs; rw [f1]
                rw [drop_post]
              rw [t1, t2, splice_in g3, ← f1]
              simp only [pathOff]; rw [← hk.1, ← f2]
            · have hset : ∀ {α : Type} (l : List α) (y d : α), i < l.length → (l.set i y).getD j d = if j = i then y else l.getD j d := by
                intro α l y d hlt
                simp only [List.getD_eq_getElem?_getD, List.getElem?_set]
                by_cases h : i = j
                · subst h; simp [hlt]
                · rw [if_neg h, if_neg (Ne.symm h)]
              rw [hset css _ _ (by omega)]
              have h0' : List.length (α := t.El) x = n := h0
              rw [show List.getD (α := t.El) (List.set (α := t.El) x i y) j t.dflt = if j = i then y else List.getD (α := t.El) x j t.dflt from hset (α := t.El) x _ _ (by omega)]
              split
              · exact ⟨hlen, hy'⟩
              · exact ⟨(hi j hj).1, (hi j hj).2.mono hle⟩
          · simp only [pathOff]
            have : css.flatten.length = p.length + (css.getD i []).length + q2.length := by rw [f1]; simp only [List.length_append]
            rw [← hk.1, ← f2]; omega
        · cases hq
      · cases hq
    · cases hq


theorem mem_oneCell {m : M} : ∀ {t : Ty} {cs : List Value} {x : t.El}, CR m false t cs x → t.mem = true → ∀ v ∈ cs, v.oneCell' = true
  | .unit, cs, x, h, _, v, hv => by simp only [CR] at h; subst h; cases hv
  | .int _, cs, x, h, _, v, hv => by simp only [CR] at h; rw [h.1] at hv; simp at hv; subst hv; rfl
  | .bool, cs, x, h, _, v, hv => by simp only [CR] at h; rw [h] at hv; simp at hv; subst hv; rfl
  | .str, cs, x, h, _, v, hv => by simp only [CR] at h; obtain ⟨s, rfl, _⟩ := h; simp at hv; subst hv; rfl
  | .sl _, cs, x, h, _, v, hv => by simp only [CR] at h; obtain ⟨_, _, _, rfl, _⟩ := h; simp at hv; subst hv; rfl
  | .arr n t, cs, x, h, hm, v, hv => by
    simp only [Ty.mem] at hm
    simp only [CR] at h
    obtain ⟨_, css, rfl, hl, hi⟩ := h
    obtain ⟨c, hc, hvc⟩ := List.mem_flatten.1 hv
    obtain ⟨i, hlt, e⟩ := List.getElem_of_mem hc
    have := hi i (by omega)
    rw [List.getD_eq_getElem?_getD, List.getElem?_eq_getElem hlt] at this
    simp only [Option.getD_some, e] at this
    exact mem_oneCell this.2 hm v hvc
  | .pair a b, cs, x, h, hm, v, hv => by
    simp only [Ty.mem, Bool.and_eq_true] at hm
    simp only [CR] at h
    obtain ⟨c1, c2, rfl, _, h1, h2⟩ := h
    rcases List.mem_append.1 hv with h | h
    · exact mem_oneCell h1 hm.1 v h
    · exact mem_oneCell h2 hm.2 v h
  | .ip _, cs, x, h, _, v, hv => by simp only [CR] at h; obtain ⟨_, _, _, rfl, _⟩ := h; simp at hv; subst hv; rfl
  | .rf _, cs, x, h, _, v, hv => by simp only [CR] at h; obtain ⟨_, _, _, rfl, _⟩ := h; simp at hv; subst hv; rfl
  | .pt, cs, x, h, _, v, hv => by simp only [CR] at h; obtain ⟨_, _, rfl, _⟩ := h; simp at hv; subst hv; rfl
  | .nilS, cs, x, h, _, v, hv => by simp only [CR] at h; rw [h] at hv; simp at hv; subst hv; rfl
  | .nilP, cs, x, h, _, v, hv => by simp only [CR] at h; rw [h] at hv; simp at hv; subst hv; rfl
  | .nilF, cs, x, h, _, v, hv => by simp only [CR] at h; rw [h] at hv; simp at hv; subst hv; rfl
  | .nilM, cs, x, h, _, v, hv => by simp only [CR] at h; rw [h] at hv; simp at hv; subst hv; rfl
  | .fn _ _, cs, x, h, _, v, hv => by simp only [CR] at h; obtain ⟨_, rfl, _⟩ := h; simp at hv; subst hv; rfl
  | .tup _, cs, x, h, hm, v, hv => by simp [Ty.mem] at hm
  | .undef, cs, x, h, hm, v, hv => by simp [Ty.mem] at hm

theorem size_setCells (b : Nat) : ∀ (vs : List Value) (o : Nat) (w : World), (w.setCells b o vs).heap.size = w.heap.size
  | [], _, _ => rfl
  | v :: r, o, w => by rw [World.setCells, size_setCells b r (o + 1)]; exact World.size_setCell w _ _

theorem at_setCells {w : World} {b base off : Nat} {cs d : List Value} (h : At w b base cs) (hl : off + d.length ≤ cs.length) : At (w.setCells b (base + off) d) b base (cs.take off ++ d ++ cs.drop (off + d.length)) := by
  intro j v hj
  have hsome : ∀ k, k < d.length → (w.cell? ⟨b, base + off + k, none⟩).isSome = true := fun k hk => by
    have hlt : off + k < cs.length := by omega
    have := h (off + k) cs[off + k] (by simp [hlt])
    rw [Nat.add_assoc, this]; rfl
  rcases Nat.lt_or_ge j off with h1 | h1
  · rw [List.append_assoc, List.getElem?_append_left (by simp only [List.length_take]; omega), List.getElem?_take_of_lt h1] at hj
    rw [World.cell?_setCells_out _ _ _ _ _ (fun _ _ => .inl (by simp; omega))]
    exact h j v hj
  · rcases Nat.lt_or_ge j (off + d.length) with h2 | h2
    · rw [List.append_assoc, List.getElem?_append_right (by simp only [List.length_take]; omega), List.getElem?_append_left (by simp only [List.length_take]; omega)] at hj
      simp only [List.length_take, show min off cs.length = off by omega] at hj
      have hlt : j - off < d.length := by omega
      have := World.cell?_setCells_in b d (base + off) w hsome (j - off) hlt
      rw [show base + off + (j - off) = base + j by omega] at this
      rw [this]
      rw [List.getElem?_eq_getElem hlt] at hj
      exact hj
    · rw [List.getElem?_append_right (by simp only [List.length_append, List.length_take]; omega)] at hj
      simp only [List.length_append, List.length_take, show min off cs.length = off by omega, List.getElem?_drop] at hj
      rw [show off + d.length + (j - (off + d.length)) = j by omega] at hj
      rw [World.cell?_setCells_out _ _ _ _ _ (fun _ _ => .inr (by simp; omega))]
      exact h j v hj

theorem cell_setCells_some {w : World} {b o : Nat} {d : List Value} (hd : ∀ k, k < d.length → (w.cell? ⟨b, o + k, none⟩).isSome = true) {b' o' : Nat} (h : ∃ v, w.cell? ⟨b', o', none⟩ = some v) : ∃ v, (w.setCells b o d).cell? ⟨b', o', none⟩ = some v := by
  by_cases hb : b' = b ∧ o ≤ o' ∧ o' < o + d.length
  · obtain ⟨rfl, h1, h2⟩ := hb
    have := World.cell?_setCells_in b' d o w hd (o' - o) (by omega)
    rw [show o + (o' - o) = o' by omega] at this
    exact ⟨_, this⟩
  · rw [World.cell?_setCells_out _ _ _ _ _ (fun h1 _ => by simp at h1 ⊢; omega)]
    exact h

end Go.Abs
