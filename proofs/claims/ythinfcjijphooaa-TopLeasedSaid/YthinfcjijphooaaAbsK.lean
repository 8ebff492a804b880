/- Append: joined. -/
import Derived.Test.YthinfcjijphooaaAbsJ
namespace Go.Abs
set_option linter.unusedVariables false
set_option linter.unusedSimpArgs false
open Go

section
variable {P : Program} {cx : Ctx} {o : Oper} {env : List V} {H : List Obj} {id : Nat} {K : Eff → Prop}

theorem set_same {H : List Obj} {i : Nat} {ob : Obj} (h : H.getD i .none = ob) (hi : i < H.length) : H.set i ob = H := by
  apply List.ext_getElem?
  intro j
  rw [List.getElem?_set]
  split
  · rename_i e; subst e; rw [List.getElem?_eq_getElem hi]; simp [List.getD, hi] at h; simp [hi, h]
  · rfl

theorem getD_of_getElem? {H : List Obj} {i : Nat} {ob : Obj} (h : H[i]? = some ob) : H.getD i .none = ob := by simp [List.getD, h]

theorem free_ne {m : M} {i : Nat} {t : Ty} {l : List t.El} {fz : Bool} (hid : m.H[id]? = some .free) (h : m.H.getD i .none = .row t l fz) : id ≠ i := by
  intro e; subst e; simp [List.getD, hid] at h

/-- What the operation gives, said of a state. -/
def Upd (P : Program) (ts tx ty : TypeId) (rest : List TypeId) (m : M) (vs vx : Value) (H' : List Obj) (u : V) : Prop :=
  ∃ (v : Value) (m' : M), (Go.Builtin.append_ (ts :: tx :: rest).toArray ty #[vs, vx]).run P m.w = .ok v m'.w ∧ m'.H = H' ∧ StR m' ∧ m.le m' ∧ VR m' v u

theorem upd_grow (hcx : CxOk P cx) {m : M} (hs : StR m) {ts tx ty e i len c off : Nat} {a : Option Addr} {vx : Value} {d : TypeDesc} {l : List (cx.ty e).dt.El} (hk : (cx.ty e).kind.known = true) (hm : (cx.ty e).dt.mem = true)
    (hu : P.underlying ts = some (.slice e)) (hux : P.underlying tx = some d) (hni : ∀ k, d ≠ .int k) (hid : m.H[id]? = some .free) (hv : View m i (cx.ty e).dt l a len c off)
    {news : List (cx.ty e).dt.El} {cN : List (List Value)} (n1 : cN.length = news.length) (n2 : ∀ i, i < news.length → (cN.getD i []).length = (cx.ty e).dt.cells ∧ CR m false (cx.ty e).dt (cN.getD i []) (news.getD i (cx.ty e).dt.dflt))
    (hl : ∀ w, (Go.Builtin.lenOf vx).run P w = .ok news.length w) (hf : (Go.Builtin.firstCells (cx.ty e).dt.cells news.length vx).run P m.w.drew = .ok cN.flatten.toArray m.w.drew)
    (hc : c < len + news.length) (hcap : capOk (len + news.length) (cx.ty e).bytes = true) (rest : List TypeId) :
    Upd P ts tx ty rest m (.slice a len c) vx ((m.H.set i .none).set id (.row (cx.ty e).dt ((l.drop off).take len ++ news) false)) ⟨.rf (cx.ty e).dt, (id, none)⟩ := by
  obtain ⟨cO, o1, o2, o3⟩ := hv.read (P := P) hs
  obtain ⟨s1, s2⟩ := hs.forget hv.hi
  have hlen : ((l.drop off).take len).length = len := by have := hv.le; simp; omega
  obtain ⟨v, m', r1, r2, r3, r4, r5⟩ := append_new (ty := ty) (m := { m with H := m.H.set i .none }) hcx s1 hk hm hu hux hni (id := id) (by
      show (m.H.set i .none)[id]? = _
      rw [List.getElem?_set_ne (Ne.symm (free_ne hid hv.ob))]; exact hid) (olds := (l.drop off).take len) (news := news) (cO := cO) (cN := cN) o1 n1
    (fun j hj => ⟨(o2 j hj).1, (o2 j hj).2.mono s2⟩) (fun j hj => ⟨(n2 j hj).1, (n2 j hj).2.mono s2⟩) hlen.symm hl hf o3 hc (by rw [hlen]; exact hcap) rest
  exact ⟨v, m', r1, r2, r3, s2.trans r4, r5⟩

theorem drop_take_app {α : Type} (l : List α) (off len : Nat) (news : List α) (h : off + len ≤ l.length) : (l.take (off + len) ++ news).drop off = (l.drop off).take len ++ news := by
  rw [List.drop_append_of_le_length (by simp; omega), List.drop_take]
  congr 2; omega

/-- At a row's end, where there is room. -/
theorem upd_end {m : M} (hs : StR m) {ts tx ty e i len c off : Nat} {a : Option Addr} {vx : Value} {d : TypeDesc} {t : Ty} {l : List t.El} (hm : t.mem = true) (hz : ∀ w, (sizeOf e).run P w = .ok t.cells w)
    (hu : P.underlying ts = some (.slice e)) (hux : P.underlying tx = some d) (hni : ∀ k, d ≠ .int k) (hid : m.H[id]? = some .free) (hv : View m i t l a len c off)
    {news : List t.El} {cN : List (List Value)} (n1 : cN.length = news.length) (n2 : ∀ i, i < news.length → (cN.getD i []).length = t.cells ∧ CR m false t (cN.getD i []) (news.getD i t.dflt))
    (hl : ∀ w, (Go.Builtin.lenOf vx).run P w = .ok news.length w) (hf : (Go.Builtin.firstCells t.cells news.length vx).run P m.w = .ok cN.flatten.toArray m.w)
    (hc : len + news.length ≤ c) (hc0 : c ≠ 0) (hend : l.length ≤ off + len + news.length) (hlim : len + news.length ≤ LIM) (rest : List TypeId) :
    Upd P ts tx ty rest m (.slice a len c) vx ((m.H.set i .none).set id (.row t ((l.drop off).take len ++ news) false)) ⟨.rf t, (id, none)⟩ := by
  obtain ⟨b, base, cap, e1, e2, e3, e4, e5, e6, e7, e8, e9, e10⟩ := append_place (P := P) (ty := ty) hs hm hz hu hux hni hv n1 n2 hl hf hc hc0 rest
  have hle := hv.le
  have hnl : ((l.drop off).take len ++ news).length = len + news.length := by simp; omega
  rw [List.drop_of_length_le hend, List.append_nil] at e9
  have hlive : (m.H.getD i .none).live := by rw [hv.ob]; trivial
  have hcell : ∀ b' o, b' ≠ b → (m.w.setCells b (base + (off + len) * t.cells) cN.flatten).cell? ⟨b', o, none⟩ = m.w.cell? ⟨b', o, none⟩ := fun b' o' hb' => World.cell?_setCells_out _ _ _ _ _ (fun h1 _ => absurd h1 hb')
  obtain ⟨q1, q2⟩ := hs.layAt (i := i) hv.hi hlive e1 (w' := m.w.setCells b (base + (off + len) * t.cells) cN.flatten) (size_setCells _ _ _ _) hcell (fun b' o' => World.frozen?_setCells _ _ _ _ _) (kept_setCells _ _ _ _) (id := id) hid e5 (ob := .row t ((l.drop off).take len ++ news) false) (base := base + off * t.cells) (cap := cap - off) (fun hle2 => by
      simp only [OR]
      right
      refine ⟨b, base + off * t.cells, cap - off, by simp, by show b < (m.w.setCells _ _ _).heap.size; rw [size_setCells]; exact e4, by rw [hnl]; omega, by rw [hnl]; exact hlim, fun k hk => ?_, e5, fun j hj => ?_⟩
      · rw [hnl] at hk
        obtain ⟨ds, d1, d2, d3⟩ := e9 (off + k) (by simp; omega)
        refine ⟨ds, d1, ?_, ?_⟩
        · rw [show base + off * t.cells + k * t.cells = base + (off + k) * t.cells by rw [Nat.add_mul]; omega]; exact d2
        · have : ((l.drop off).take len ++ news).getD k t.dflt = (l.take (off + len) ++ news).getD (off + k) t.dflt := by
            rw [← drop_take_app l off len news hle]
            simp only [List.getD_eq_getElem?_getD]; rw [List.getElem?_drop]
          rw [this]; exact d3.mono hle2
      · have : off * t.cells + j < cap * t.cells := by
          have h1 : (cap - off) * t.cells + off * t.cells = cap * t.cells := by rw [← Nat.add_mul]; congr 1; omega
          omega
        have := e10 _ this
        rw [← Nat.add_assoc] at this; exact this)
  refine ⟨.slice a (len + news.length) c, _, e8, rfl, q1, q2, ?_⟩
  subst e2
  simp only [VR, Ty.isAgg, CR]
  refine ⟨_, _, _, rfl, hc, hlim, ?_, ?_⟩
  · simp only [List.length_set]
    rcases Nat.lt_or_ge id m.H.length with h | h
    · exact h
    · rw [List.getElem?_eq_none h] at hid; cases hid
  · have hlt : id < (m.H.set i .none).length := by
      simp only [List.length_set]
      rcases Nat.lt_or_ge id m.H.length with h | h
      · exact h
      · rw [List.getElem?_eq_none h] at hid; cases hid
    have hg : ((m.H.set i .none).set id (.row t ((l.drop off).take len ++ news) false)).getD id .none = .row t ((l.drop off).take len ++ news) false := by rw [getD_set hlt]; simp
    simp only [hg]
    exact ⟨trivial, hnl.symm, .inr ⟨b, base + off * t.cells, cap - off, by simp, rfl, by omega⟩⟩

/-- Within a row. -/
theorem upd_in {m : M} (hs : StR m) {ts tx ty e i len c off : Nat} {a : Option Addr} {vx : Value} {d : TypeDesc} {t : Ty} {l : List t.El} (hm : t.mem = true) (hz : ∀ w, (sizeOf e).run P w = .ok t.cells w)
    (hu : P.underlying ts = some (.slice e)) (hux : P.underlying tx = some d) (hni : ∀ k, d ≠ .int k) (hv : View m i t l a len c off)
    {news : List t.El} {cN : List (List Value)} (n1 : cN.length = news.length) (n2 : ∀ i, i < news.length → (cN.getD i []).length = t.cells ∧ CR m false t (cN.getD i []) (news.getD i t.dflt))
    (hl : ∀ w, (Go.Builtin.lenOf vx).run P w = .ok news.length w) (hf : (Go.Builtin.firstCells t.cells news.length vx).run P m.w = .ok cN.flatten.toArray m.w)
    (hc0 : c ≠ 0) (hin : off + len + news.length ≤ l.length) (rest : List TypeId) :
    Upd P ts tx ty rest m (.slice a len c) vx (m.H.set i (.row t (l.take (off + len) ++ news ++ l.drop (off + len + news.length)) false)) ⟨.rf t, (i, some (off, len + news.length))⟩ := by
  have hge := hv.ge
  obtain ⟨b, base, cap, e1, e2, e3, e4, e5, e6, e7, e8, e9, e10⟩ := append_place (P := P) (ty := ty) hs hm hz hu hux hni hv n1 n2 hl hf (by omega) hc0 rest
  have hnl : (l.take (off + len) ++ news ++ l.drop (off + len + news.length)).length = l.length := by simp; omega
  have hlive : (m.H.getD i .none).live := by rw [hv.ob]; trivial
  generalize hL : l.take (off + len) ++ news ++ l.drop (off + len + news.length) = L at *
  obtain ⟨q1, q2⟩ := hs.write (i := i) hv.hi hlive e1 e5 (w' := m.w.setCells b (base + (off + len) * t.cells) cN.flatten) (size_setCells _ _ _ _)
    (fun b' o' hb' => World.cell?_setCells_out _ _ _ _ _ (fun h1 _ => absurd h1 hb')) (fun b' o' => World.frozen?_setCells _ _ _ _ _) (kept_setCells _ _ _ _) (ob := .row t L false) (by rw [hv.ob]; simp [OStep, hnl]) trivial (fun hle2 => by
      simp only [OR]
      right
      refine ⟨b, base, cap, e1, by show b < (m.w.setCells _ _ _).heap.size; rw [size_setCells]; exact e4, by rw [hnl]; exact e7, by rw [hnl]; exact e6, fun k hk => ?_, e5, e10⟩
      obtain ⟨ds, d1, d2, d3⟩ := e9 k hk
      exact ⟨ds, d1, d2, d3.mono hle2⟩)
  refine ⟨.slice a (len + news.length) c, _, e8, rfl, q1, q2, ?_⟩
  subst e2
  simp only [VR, Ty.isAgg, CR]
  refine ⟨_, _, _, rfl, by omega, by omega, by simpa using hv.hi, ?_⟩
  have hg : (m.H.set i (.row t L false)).getD i .none = .row t L false := by rw [getD_set hv.hi]; simp
  simp only [hg]
  exact ⟨trivial, trivial, by omega, by omega, .inr ⟨b, base, cap, e1, rfl, e3⟩⟩

end
end Go.Abs
