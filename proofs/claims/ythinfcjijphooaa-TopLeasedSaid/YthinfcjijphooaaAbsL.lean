/- Append: the operation. -/
import Derived.Test.YthinfcjijphooaaAbsK
namespace Go.Abs
set_option linter.unusedVariables false
set_option linter.unusedSimpArgs false
open Go

section
variable {P : Program} {cx : Ctx} {o : Oper} {env : List V} {H : List Obj} {id : Nat} {K : Eff → Prop}

theorem run_append_zero {w : World} {ts tx ty e len c size : Nat} {base : Option Addr} {vx : Value} {d : TypeDesc} (hu : P.underlying ts = some (.slice e)) (hux : P.underlying tx = some d) (hni : ∀ k, d ≠ .int k) (hz : ∀ w, (sizeOf e).run P w = .ok size w)
    (hl : ∀ w, (Go.Builtin.lenOf vx).run P w = .ok 0 w) (hf : (Go.Builtin.firstCells size 0 vx).run P w = .ok #[] w) (hc : len ≤ c) (rest : List TypeId) :
    (Go.Builtin.append_ (ts :: tx :: rest).toArray ty #[.slice base len c, vx]).run P w = .ok (.slice base len c) w := by
  simp only [Go.Builtin.append_]
  simp [run_underlying hu, run_underlying hux, hz]
  cases d <;> simp at hni ⊢ <;> cases base <;> simp [hl, hc, hf, storeCells]

theorem upd_empty {m : M} (hs : StR m) {ts tx ty e size : Nat} {a : Option Addr} {vx : Value} {d : TypeDesc} {t : Ty} (hz : ∀ w, (sizeOf e).run P w = .ok size w)
    (hu : P.underlying ts = some (.slice e)) (hux : P.underlying tx = some d) (hni : ∀ k, d ≠ .int k) {m1 : M} (hw : m1.w = m.w) (hs1 : StR m1) (hle : m.le m1) (hid : m1.H[id]? = some .free)
    (hl : ∀ w, (Go.Builtin.lenOf vx).run P w = .ok 0 w) (hf : (Go.Builtin.firstCells size 0 vx).run P m.w = .ok #[] m.w) (rest : List TypeId) :
    Upd P ts tx ty rest m (.slice a 0 0) vx (m1.H.set id (.row t [] false)) ⟨.rf t, (id, none)⟩ := by
  obtain ⟨q1, q2⟩ := hs1.lay (w' := m1.w) (Grows.refl _) hid (ob := .row t [] false) (r := none) (fun _ _ _ h => by cases h) (fun _ => by simp [OR])
  refine ⟨.slice a 0 0, _, ?_, rfl, q1, hle.trans q2, ?_⟩
  · show _ = Result.ok _ m1.w
    rw [hw]; exact run_append_zero hu hux hni hz hl hf (Nat.le_refl _) rest
  · have hlt : id < m1.H.length := by
      rcases Nat.lt_or_ge id m1.H.length with h | h
      · exact h
      · rw [List.getElem?_eq_none h] at hid; cases hid
    simp only [VR, Ty.isAgg, CR]
    refine ⟨_, _, _, rfl, Nat.le_refl _, by simp, by simpa using hlt, ?_⟩
    have hg : (m1.H.set id (.row t [] false)).getD id .none = .row t [] false := by rw [getD_set hlt]; simp
    simp only [hg]
    exact ⟨trivial, by simp, .inl trivial⟩

theorem capOk_mono {a b bytes : Nat} (h : capOk b bytes = true) (hab : a ≤ b) : capOk a bytes = true := by
  simp only [capOk, decide_eq_true_eq] at h ⊢
  have h1 : 2 * a + 1000 ≤ 2 * b + 1000 := Nat.add_le_add_right (Nat.mul_le_mul_left 2 hab) 1000
  have h2 := Nat.mul_le_mul_right (bytes + 1) h1
  exact Nat.le_trans h2 h

theorem capOk_lim {n bytes : Nat} (h : capOk n bytes = true) : n ≤ LIM := by
  simp only [capOk, decide_eq_true_eq] at h
  have h3 : 2 * n + 1000 ≤ (2 * n + 1000) * (bytes + 1) := Nat.le_mul_of_pos_right _ (by omega)
  unfold LIM; omega

theorem appendV_fine (hcx : CxOk P cx) {ts tx e : Nat} {d : TypeDesc} (hk : (cx.ty e).kind.known = true) (hm : (cx.ty e).dt.mem = true) (hu : P.underlying ts = some (.slice e)) (hux : P.underlying tx = some d) (hni : ∀ k, d ≠ .int k)
    {s x : V} (h : appendV H id (cx.ty e).dt (cx.ty e).bytes s x K) :
    ∃ eff, K eff ∧ ∀ (m : M) (vs vx : Value), StR m → VR m vs s → VR m vx x → m.H.length = H.length → (∀ i ∈ eff.rd, i < H.length ∧ m.H.getD i .none = H.getD i .none) → m.H[id]? = some .free →
      ∀ ty rest, Upd P ts tx ty rest m vs vx (ups m.H eff.ups) eff.v := by
  obtain ⟨inf, z, i1, i2, i3, i4, i5, i6, i7⟩ := (hcx e (known_ne hk)).inf
  have hsz := (hcx e (known_ne hk)).size
  have hcells : (cx.ty e).size = (cx.ty e).dt.cells := by
    have := (CR_of_VR (i6 ⟨fun _ => none, [], fun _ => False, default⟩) (mem_ne hm)).len
    rw [← this, ← i7]; simp
  rw [hcells] at hsz
  unfold appendV at h
  split at h
  · exact h.elim
  · rename_i xs rx hsl
    have src : ∀ (m : M) (vx : Value), StR m → VR m vx x → (∀ i ∈ rx, i < H.length ∧ m.H.getD i .none = H.getD i .none) → ∃ css : List (List Value), css.length = xs.length ∧
        (∀ i, i < xs.length → (css.getD i []).length = (cx.ty e).dt.cells ∧ CR m false (cx.ty e).dt (css.getD i []) (xs.getD i (cx.ty e).dt.dflt)) ∧
        (∀ w, (Go.Builtin.lenOf vx).run P w = .ok xs.length w) ∧ (Go.Builtin.firstCells (cx.ty e).dt.cells xs.length vx).run P m.w = .ok css.flatten.toArray m.w ∧ xs.length ≤ LIM := fun m vx hs hv hrd => src_run hs hsl hv hrd
    have srcD : ∀ (m : M) (vx : Value), StR m → VR m vx x → (∀ i ∈ rx, i < H.length ∧ m.H.getD i .none = H.getD i .none) → ∃ css : List (List Value), css.length = xs.length ∧
        (∀ i, i < xs.length → (css.getD i []).length = (cx.ty e).dt.cells ∧ CR m false (cx.ty e).dt (css.getD i []) (xs.getD i (cx.ty e).dt.dflt)) ∧
        (∀ w, (Go.Builtin.lenOf vx).run P w = .ok xs.length w) ∧ (Go.Builtin.firstCells (cx.ty e).dt.cells xs.length vx).run P m.w.drew = .ok css.flatten.toArray m.w.drew := fun m vx hs hv hrd => by
      obtain ⟨s1, s2⟩ := hs.grow (w' := m.w.drew) (Grows.of_heap rfl rfl rfl rfl)
      obtain ⟨_, s4⟩ := s1.grow (w' := m.w) (Grows.of_heap rfl rfl rfl rfl)
      obtain ⟨css, c1, c2, c3, c4, _⟩ := src_run (P := P) (m := { m with w := m.w.drew }) s1 hsl (hv.mono s2) hrd
      exact ⟨css, c1, fun i hi => ⟨(c2 i hi).1, (c2 i hi).2.mono s4⟩, c3, c4⟩
    split at h
    · -- nothing yet
      generalize hcap' : capOk xs.length (cx.ty e).bytes = bb at h
      obtain ⟨rfl, h⟩ := gd_true h
      have hcap := hcap'
      refine ⟨_, h, fun m vs vx hs hvs hvx hlen hrd hid ty rest => ?_⟩
      cases VR.nilS hvs
      by_cases h0 : xs.length = 0
      · have hx0 : xs = [] := List.eq_nil_of_length_eq_zero h0
        subst hx0
        obtain ⟨css, c1, c2, c3, c4, _⟩ := src m vx hs hvx hrd
        have hc0 : css = [] := List.eq_nil_of_length_eq_zero (by simpa using c1)
        subst hc0
        exact upd_empty hs hsz hu hux hni rfl hs (M.le.refl m) hid c3 c4 rest
      · obtain ⟨css, c1, c2, c3, c4⟩ := srcD m vx hs hvx hrd
        obtain ⟨v, m', r1, r2, r3, r4, r5⟩ := append_new (ty := ty) (base := none) (len := 0) (c := 0) hcx hs hk hm hu hux hni hid (olds := []) (news := xs) (cO := []) (cN := css) rfl c1 (by simp) c2 rfl c3 c4
          (by simp [Go.Builtin.firstCells]) (by omega) (by simpa using hcap) rest
        exact ⟨v, m', r1, r2, r3, r4, r5⟩
    · -- a row
      rename_i t' p
      split at h
      · rename_i et
        subst et
        split at h
        · rename_i u l hob
          split at h
          · rename_i eu
            subst eu
            simp only at h
            have forH : ∀ (m : M), m.H.length = H.length → (p.1 < H.length ∧ m.H.getD p.1 .none = H.getD p.1 .none) → m.H.getD p.1 .none = .row (cx.ty e).dt l false := fun m _ hp => by
              rw [hp.2]; exact getD_of_getElem? hob
            obtain ⟨i, q⟩ := p
            simp only at h hob forH
            split at h
            · rename_i hq
              generalize hcap' : capOk (l.length + xs.length) (cx.ty e).bytes = bb at h
              obtain ⟨rfl, h⟩ := gd_true h
              refine ⟨_, h, fun m vs vx hs hvs hvx hlen hrd hid ty rest => ?_⟩
              have ho := forH m hlen (hrd i (by simp))
              have hrx : ∀ j ∈ rx, j < H.length ∧ m.H.getD j .none = H.getD j .none := fun j hj => hrd j (by simp [hj])
              obtain ⟨a, c, rfl, hv⟩ := View.of hvs ho
              simp only [rfLen, rfOff] at hv ⊢
              have hup : ups m.H [(i, Obj.none), (id, Obj.row (cx.ty e).dt (l ++ xs) false)] = (m.H.set i .none).set id (.row (cx.ty e).dt ((l.drop 0).take l.length ++ xs) false) := by simp [ups]
              rw [hup]
              by_cases hg : c < l.length + xs.length
              · obtain ⟨css, c1, c2, c3, c4⟩ := srcD m vx hs hvx hrx
                exact upd_grow hcx hs hk hm hu hux hni hid hv c1 c2 c3 c4 hg hcap' rest
              · obtain ⟨css, c1, c2, c3, c4, _⟩ := src m vx hs hvx hrx
                by_cases hc0 : c = 0
                · subst hc0
                  have hl0 : l = [] := List.eq_nil_of_length_eq_zero (by omega)
                  have hx0 : xs = [] := List.eq_nil_of_length_eq_zero (by omega)
                  subst hl0; subst hx0
                  have hcs0 : css = [] := List.eq_nil_of_length_eq_zero (by simpa using c1)
                  subst hcs0
                  obtain ⟨s1, s2⟩ := hs.forget hv.hi
                  exact upd_empty hs hsz hu hux hni (m1 := { m with H := m.H.set i .none }) rfl s1 s2 (by
                    show (m.H.set i .none)[id]? = _
                    rw [List.getElem?_set_ne (Ne.symm (free_ne hid hv.ob))]; exact hid) c3 c4 rest
                · exact upd_end hs hm hsz hu hux hni hid hv c1 c2 c3 c4 (by omega) hc0 (by omega) (capOk_lim hcap') rest
            · rename_i off len
              generalize hcap' : capOk (l.length + xs.length) (cx.ty e).bytes = bb at h
              obtain ⟨rfl, h⟩ := gd_true h
              rcases br_or h with ⟨hin, h⟩ | ⟨hin, h⟩
              · have hin := of_decide_eq_true hin
                refine ⟨_, h, fun m vs vx hs hvs hvx hlen hrd hid ty rest => ?_⟩
                have ho := forH m hlen (hrd i (by simp))
                have hrx : ∀ j ∈ rx, j < H.length ∧ m.H.getD j .none = H.getD j .none := fun j hj => hrd j (by simp [hj])
                obtain ⟨a, c, rfl, hv⟩ := View.of hvs ho
                simp only [rfLen, rfOff] at hv ⊢
                obtain ⟨css, c1, c2, c3, c4, _⟩ := src m vx hs hvx hrx
                by_cases hc0 : c = 0
                · have hge := hv.ge
                  have hlc := hv.lc
                  have hx0 : xs = [] := List.eq_nil_of_length_eq_zero (by omega)
                  subst hx0
                  have hcs0 : css = [] := List.eq_nil_of_length_eq_zero (by simpa using c1)
                  subst hcs0
                  refine ⟨_, m, run_append_zero hu hux hni hsz c3 c4 hlc rest, ?_, hs, M.le.refl m, hvs⟩
                  simp only [ups, List.append_nil, List.length_nil, Nat.add_zero, List.take_append_drop]
                  exact (set_same ho hv.hi).symm
                · exact upd_in hs hm hsz hu hux hni hv c1 c2 c3 c4 hc0 hin rest
              · have hin := of_decide_eq_false hin
                refine ⟨_, h, fun m vs vx hs hvs hvx hlen hrd hid ty rest => ?_⟩
                have ho := forH m hlen (hrd i (by simp))
                have hrx : ∀ j ∈ rx, j < H.length ∧ m.H.getD j .none = H.getD j .none := fun j hj => hrd j (by simp [hj])
                obtain ⟨a, c, rfl, hv⟩ := View.of hvs ho
                simp only [rfLen, rfOff] at hv ⊢
                have hle := hv.le
                have hcap2 : capOk (len + xs.length) (cx.ty e).bytes = true := capOk_mono hcap' (by omega)
                by_cases hg : c < len + xs.length
                · obtain ⟨css, c1, c2, c3, c4⟩ := srcD m vx hs hvx hrx
                  exact upd_grow hcx hs hk hm hu hux hni hid hv c1 c2 c3 c4 hg hcap2 rest
                · obtain ⟨css, c1, c2, c3, c4, _⟩ := src m vx hs hvx hrx
                  exact upd_end hs hm hsz hu hux hni hid hv c1 c2 c3 c4 (by omega) (by omega) (by omega) (capOk_lim hcap2) rest
          · exact h.elim
        · exact h.elim
      · exact h.elim
    · exact h.elim

end
end Go.Abs
