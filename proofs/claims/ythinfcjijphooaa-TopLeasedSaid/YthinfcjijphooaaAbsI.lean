/- Append, as an operation. -/
import Derived.Test.YthinfcjijphooaaAbsH
namespace Go.Abs
set_option linter.unusedVariables false
set_option linter.unusedSimpArgs false
open Go

section
variable {P : Program} {cx : Ctx} {o : Oper} {env : List V} {H : List Obj} {id : Nat} {K : Eff → Prop}

theorem run_append_new {w : World} {ts tx ty e n len c size : Nat} {base : Option Addr} {vx : Value} {olds news : List Value} {d : TypeDesc} {inf : TypeInfo} {z : Value}
    (hu : P.underlying ts = some (.slice e)) (hux : P.underlying tx = some d) (hni : ∀ k, d ≠ .int k) (hi : P.info? e = some inf) (hsz : inf.size = size) (hz : inf.zero = some z)
    (hl : ∀ w, (Go.Builtin.lenOf vx).run P w = .ok n w) (hf : (Go.Builtin.firstCells size n vx).run P w.drew = .ok news.toArray w.drew) (hfo : (Go.Builtin.firstCells size len (.slice base len c)).run P w.drew = .ok olds.toArray w.drew)
    (hc : c < len + n) (h63 : len + n ≤ 9223372036854775807) (hfit : Go.Builtin.nextslicecap (len + n) c * inf.bytes ≤ 281474976710656) (rest : List TypeId) :
    (Go.Builtin.append_ (ts :: tx :: rest).toArray ty #[.slice base len c, vx]).run P w = .ok (.slice (some ⟨w.heap.size, 0, none⟩) (len + n) (grownCap w (len + n) c e))
      (w.drew.alloc (.cells (olds.toArray ++ news.toArray ++ Go.Builtin.zeroCells z.cells (grownCap w (len + n) c e - (len + n))) e)) := by
  subst hsz
  have hn : ¬ (len + n ≤ c) := by omega
  have h63' : ¬ (9223372036854775807 < ((len : Int) + (n : Int))) := by omega
  have h48' : ¬ (281474976710656 < Go.Builtin.nextslicecap (len + n) c * inf.bytes) := by omega
  have hzs : (∀ w, (sizeOf e).run P w = .ok inf.size w) := fun w => by simp [sizeOf, typeInfo, hi]
  simp only [Go.Builtin.append_]
  simp [run_underlying hu, run_underlying hux, hzs]
  cases d <;> simp [hl, hn, h63', h48', typeInfo, zeroValue, hi, hz, Question.forced, hf, hfo, newRow, grownCap] at hni ⊢
  all_goals
    congr 2
    apply Array.ext'
    simp [List.append_assoc]

theorem zeroCells_flat (z : Array Value) (c : Nat) : (Go.Builtin.zeroCells z c).toList = (List.replicate c z.toList).flatten := madeCells_flat z c

theorem getD_app {α : Type} (a b : List α) (i : Nat) (d : α) : (a ++ b).getD i d = if i < a.length then a.getD i d else b.getD (i - a.length) d := by
  simp only [List.getD_eq_getElem?_getD]
  split
  · rename_i h; rw [List.getElem?_append_left h]
  · rename_i h; rw [List.getElem?_append_right (by omega)]

theorem capOk_fit {n old bytes : Nat} (h : capOk n bytes = true) (ho : old < n) : Go.Builtin.nextslicecap n old * bytes ≤ 281474976710656 ∧ n ≤ LIM ∧ n ≤ 9223372036854775807 := by
  simp only [capOk, decide_eq_true_eq] at h
  have h1 := nextslicecap_le ho
  have h2 : Go.Builtin.nextslicecap n old * bytes ≤ (2 * n + 1000) * (bytes + 1) := Nat.mul_le_mul h1 (by omega)
  have h3 : 2 * n + 1000 ≤ (2 * n + 1000) * (bytes + 1) := Nat.le_mul_of_pos_right _ (by omega)
  unfold LIM
  omega

theorem append_new (hcx : CxOk P cx) {m : M} (hs : StR m) {ts tx ty e len c : Nat} {base : Option Addr} {vx : Value} {d : TypeDesc} (hk : (cx.ty e).kind.known = true) (hm : (cx.ty e).dt.mem = true)
    (hu : P.underlying ts = some (.slice e)) (hux : P.underlying tx = some d) (hni : ∀ k, d ≠ .int k) (hid : m.H[id]? = some .free)
    {olds news : List (cx.ty e).dt.El} {cO cN : List (List Value)} (o1 : cO.length = olds.length) (n1 : cN.length = news.length)
    (o2 : ∀ i, i < olds.length → (cO.getD i []).length = (cx.ty e).dt.cells ∧ CR m false (cx.ty e).dt (cO.getD i []) (olds.getD i (cx.ty e).dt.dflt))
    (n2 : ∀ i, i < news.length → (cN.getD i []).length = (cx.ty e).dt.cells ∧ CR m false (cx.ty e).dt (cN.getD i []) (news.getD i (cx.ty e).dt.dflt))
    (hlen : len = olds.length) (hl : ∀ w, (Go.Builtin.lenOf vx).run P w = .ok news.length w) (hf : (Go.Builtin.firstCells (cx.ty e).dt.cells news.length vx).run P m.w.drew = .ok cN.flatten.toArray m.w.drew)
    (hfo : (Go.Builtin.firstCells (cx.ty e).dt.cells len (.slice base len c)).run P m.w.drew = .ok cO.flatten.toArray m.w.drew)
    (hc : c < len + news.length) (hcap : capOk (olds.length + news.length) (cx.ty e).bytes = true) (rest : List TypeId) :
    ∃ (v : Value) (m' : M), (Go.Builtin.append_ (ts :: tx :: rest).toArray ty #[.slice base len c, vx]).run P m.w = .ok v m'.w ∧ m'.H = m.H.set id (.row (cx.ty e).dt (olds ++ news) false) ∧ StR m' ∧ m.le m' ∧ VR m' v ⟨.rf (cx.ty e).dt, (id, none)⟩ := by
  obtain ⟨inf, z, i1, i2, i3, i4, i5, i6, i7⟩ := (hcx e (known_ne hk)).inf
  have hz : CR m false (cx.ty e).dt z.cells.toList (cx.ty e).dt.dflt := CR_of_VR (i6 m) (mem_ne hm)
  have hzl : z.cells.size = (cx.ty e).dt.cells := by have := hz.len; simpa using this
  obtain ⟨f1, f2, f3⟩ := capOk_fit hcap (old := c) (by omega)
  subst hlen
  have hr := run_append_new (ty := ty) (w := m.w) (size := (cx.ty e).dt.cells) hu hux hni i1 (by omega) i4 hl hf hfo hc f3 (by rw [i3]; exact f1) rest
  have hge := grownCap_ge m.w (olds.length + news.length) c e
  generalize grownCap m.w (olds.length + news.length) c e = cap at hr hge
  have lO : cO.flatten.length = olds.length * (cx.ty e).dt.cells := by rw [flatten_len (k := (cx.ty e).dt.cells) (fun j hj => (o2 j (by omega)).1), o1]
  have lN : cN.flatten.length = news.length * (cx.ty e).dt.cells := by rw [flatten_len (k := (cx.ty e).dt.cells) (fun j hj => (n2 j (by omega)).1), n1]
  obtain ⟨m', g1, g2, g3, g4, g5⟩ := lay_row hs hid (w' := m.w.drew.alloc (.cells (cO.flatten.toArray ++ cN.flatten.toArray ++ Go.Builtin.zeroCells z.cells (cap - (olds.length + news.length))) e)) (cells := cO.flatten.toArray ++ cN.flatten.toArray ++ Go.Builtin.zeroCells z.cells (cap - (olds.length + news.length))) (T := e) (fr := (0, 0)) rfl ⟨rfl, rfl, rfl⟩
    (t := (cx.ty e).dt) (l := olds ++ news) (css := cO ++ cN) (cap := cap) (spare := (List.replicate (cap - (olds.length + news.length)) z.cells.toList).flatten)
    (by simp [o1, n1]) (fun i hi => by
      rw [getD_app, getD_app, o1]
      simp only [List.length_append] at hi
      split
      · rename_i h; exact o2 i h
      · rename_i h; exact n2 _ (by omega)) (by simp [zeroCells_flat]) (by
      have hzc : (Go.Builtin.zeroCells z.cells (cap - (olds.length + news.length))).size = (cap - (olds.length + news.length)) * (cx.ty e).dt.cells := by rw [size_zeroCells, hzl]
      rw [Array.size_append, Array.size_append, hzc, List.size_toArray, List.size_toArray, lO, lN, ← Nat.add_mul, ← Nat.add_mul, Nat.add_sub_of_le hge]) (by simpa using hge) (by simpa using f2) (.inl rfl)
  exact ⟨_, m', by rw [g1]; exact hr, g2, g3, g4, by simpa using g5⟩

end
end Go.Abs
