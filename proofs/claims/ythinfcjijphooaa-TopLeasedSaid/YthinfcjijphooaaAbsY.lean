/- A law's arguments, read; what a law's row asks. -/
import Derived.WalkKit
import Derived.ProofKit
import Derived.OpenShut
import Derived.ChangeOld
import Derived.Below
import Derived.SizedLaws
import Derived.Test.YthinfcjijphooaaAbsX
namespace Go.Abs
set_option linter.unusedVariables false
set_option linter.unusedSimpArgs false
open Go Go.RowKit

theorem optMapM_get {α β : Type} {f : α → Option β} : ∀ {xs : List α} {l : List β}, xs.mapM f = some l → l.length = xs.length ∧ ∀ (i : Nat) (a : α), xs[i]? = some a → ∃ b : β, l[i]? = some b ∧ f a = some b
  | [], l, h => by
    simp only [List.mapM_nil] at h
    cases h; simp
  | x :: xs, l, h => by
    simp only [List.mapM_cons] at h
    cases hx : f x with
    | none => rw [hx] at h; cases h
    | some b =>
      rw [hx] at h
      cases hr : xs.mapM f with
      | none => rw [hr] at h; cases h
      | some r =>
        rw [hr] at h
        have h : some (b :: r) = some l := h
        cases h
        obtain ⟨h1, h2⟩ := optMapM_get hr
        refine ⟨by simp [h1], fun i a hi => ?_⟩
        cases i with
        | zero => simp at hi; subst hi; exact ⟨b, rfl, hx⟩
        | succ i => simpa using h2 i a (by simpa using hi)

/-- The type's values are data, told as 'ty'. -/
def dtF (P : Program) (rec : TypeId → Ty → Bool) : List Field → Nat → Ty → Bool
  | [], _, .unit => true
  | f :: r, off, .pair a b => decide (f.offset = off) && decide (P.cellsOf f.type = a.cells) && rec f.type a && dtF P rec r (off + a.cells) b
  | _, _, _ => false

def dtB (P : Program) : Nat → TypeId → Ty → Bool
  | 0, _, _ => false
  | n + 1, t, ty => match P.underlying t, ty with
    | some .bool, .bool => true
    | some (.int k), .int k' => decide (k = k')
    | some .string, .str => true
    | some (.slice e), .sl u => dtB P n e u && decide (P.cellsOf e = u.cells) && decide (1 ≤ u.cells) && decide (1 ≤ P.bytesOf e)
    | some (.array m e), .arr m' u => decide (m = m') && dtB P n e u && decide (P.cellsOf e = u.cells) && decide (P.cellsOf t = m * u.cells)
    | some (.struct fs), ty => dtF P (dtB P n) fs.toList 0 ty && decide (P.cellsOf t = ty.cells)
    | _, _ => false

/-- All memory that is there. -/
def allM (W : World) : M := ⟨fun _ => none, [], fun b => b < W.heap.size, W⟩

section
variable {H : Type} {enc : TypeId × Value → H} {P : Program} {W : World} {base : Nat} {spare : Nat → Bool} {held : Bool}

theorem add_spot {a : Addr} (hs : a.spot = none) (j : Nat) : a.add j = ⟨a.block, a.off + j, none⟩ := by
  obtain ⟨b, o, s⟩ := a
  simp only at hs; subst hs
  unfold Addr.add
  split
  · rename_i h; subst h; rfl
  · rfl

theorem weightsAll_mem {e : TypeId} : ∀ {l : List (DataW H)} {i : Nat} {d : DataW H}, l[i]? = some d → ∀ n ∈ d.weights P e, n ∈ DataW.weightsAll P e l
  | [], _, _, h, _, _ => by simp at h
  | d0 :: l, 0, d, h, n, hn => by simp at h; subst h; simp [DataW.weightsAll, hn]
  | d0 :: l, i + 1, d, h, n, hn => by
    simp only [DataW.weightsAll, List.mem_append]; exact .inr (weightsAll_mem (by simpa using h) n hn)

theorem cells_At {a : Addr} {n : Nat} {ds : List Value} (h : W.cells? base a n = some ds) (hn : 1 ≤ n) : ds.length = n ∧ a.spot = none ∧ a.block < W.heap.size ∧ At W a.block a.off ds := by
  unfold World.cells? at h
  split at h
  · obtain ⟨h1, h2⟩ := optMapM_get h
    simp only [List.length_range] at h1
    have key : ∀ i, i < n → ∃ b, ds[i]? = some b ∧ W.cell? (a.add i) = some b := fun i hi => h2 i i (by simp [hi])
    obtain ⟨b0, _, g0⟩ := key 0 (by omega)
    have hs : a.spot = none := by
      unfold World.cell? at g0
      split at g0
      · split at g0
        · cases g0
        · rename_i hh; simpa [Addr.add] using hh
      · cases g0
    have hb := World.block_lt_of_cell? W _ g0
    refine ⟨h1, hs, hb, fun j v hj => ?_⟩
    have hjn : j < n := by
      rcases Nat.lt_or_ge j n with h | h
      · exact h
      · rw [List.getElem?_eq_none (by omega)] at hj; cases hj
    obtain ⟨b, e1, e2⟩ := key j hjn
    rw [hj] at e1; cases e1
    have : a.add j = ⟨a.block, a.off + j, none⟩ := add_spot hs j
    rw [this] at e2; exact e2
  · cases h

theorem dtF_CR {rec : TypeId → Ty → Bool} {m : M} {trod : TypeId → List Value → Option (DataW H × List MemPlace)}
    (hrec : ∀ t ty cs r, rec t ty = true → trod t cs = some r → ∃ x, CR m false ty cs x) :
    ∀ (fs : List Field) (off : Nat) (ty : Ty) (cs : List Value), dtF P rec fs off ty = true → (∀ (i : Nat) (f : Field), fs[i]? = some f → ∃ r, trod f.type ((cs.drop f.offset).take (P.cellsOf f.type)) = some r) → cs.length = off + ty.cells →
      ∃ x, CR m false ty (cs.drop off) x
  | [], off, ty, cs, h, hx, hl => by
    cases ty <;> simp only [dtF, Bool.false_eq_true] at h
    refine ⟨(), ?_⟩
    simp only [CR]
    apply List.drop_of_length_le
    simp [Ty.cells] at hl; omega
  | f :: fs, off, ty, cs, h, hx, hl => by
    cases ty <;> simp only [dtF, Bool.false_eq_true] at h
    rename_i a b
    simp only [Bool.and_eq_true, decide_eq_true_eq] at h
    obtain ⟨⟨⟨h1, h2⟩, h3⟩, h4⟩ := h
    obtain ⟨r, hf⟩ := hx 0 f rfl
    obtain ⟨x, hxc⟩ := hrec _ _ _ _ h3 hf
    obtain ⟨y, hy⟩ := dtF_CR hrec fs (off + a.cells) b cs h4 (fun i g hg => hx (i + 1) g (by simpa using hg)) (by simp [Ty.cells] at hl; omega)
    refine ⟨(x, y), ?_⟩
    simp only [CR]
    subst h1
    refine ⟨(cs.drop f.offset).take a.cells, (cs.drop f.offset).drop a.cells, (List.take_append_drop _ _).symm, ?_, ?_, ?_⟩
    · simp [Ty.cells] at hl; simp; omega
    · rw [← h2]; exact hxc
    · rw [List.drop_drop]; exact hy

theorem choose_list {t : Ty} {R : Nat → t.El → Prop} : ∀ {n : Nat}, (∀ i, i < n → ∃ x, R i x) → ∃ l : List t.El, l.length = n ∧ ∀ i, i < n → R i (List.getD l i t.dflt)
  | 0, _ => ⟨[], rfl, fun i hi => by omega⟩
  | n + 1, h => by
    obtain ⟨l, hl, hr⟩ := choose_list (n := n) (fun i hi => h i (by omega))
    obtain ⟨x, hx⟩ := h n (by omega)
    refine ⟨l ++ [x], by simp [hl], fun i hi => ?_⟩
    by_cases e : i < n
    · have : List.getD (l ++ [x]) i t.dflt = List.getD l i t.dflt := by simp only [List.getD]; rw [List.getElem?_append_left (by omega)]
      rw [this]; exact hr i e
    · have : i = n := by omega
      subst this
      have : List.getD (l ++ [x]) i t.dflt = x := by simp only [List.getD]; rw [List.getElem?_append_right (by omega)]; simp [hl]
      rw [this]; exact hx

theorem trod_CR : ∀ (n : Nat) (t : TypeId) (ty : Ty), dtB P n t ty = true → ∀ (fuel : Nat) (cs : List Value) (r : DataW H × List MemPlace), DataW.trod enc P W base spare held fuel t cs = some r → (∀ k ∈ r.1.weights P t, k ≤ reachBytes) → ∃ x, CR (allM W) false ty cs x := by
  intro n
  induction n with
  | zero => intro t ty h; simp [dtB] at h
  | succ n ih =>
    intro t ty h fuel cs r hr hW
    simp only [dtB] at h
    split at h
    · rename_i hu
      obtain ⟨b, rfl, _⟩ := DataW.trod_bool hu hr
      exact ⟨b, by simp only [CR]⟩
    · rename_i k k' hu
      simp only [decide_eq_true_eq] at h; subst h
      obtain ⟨x, rfl, _, hw⟩ := DataW.trod_int hu hr
      refine ⟨x, ?_⟩
      simp only [CR]
      refine ⟨trivial, ?_⟩
      rw [inK_iff]
      simpa [Lit.wf, IntKind.has] using hw
    · rename_i hu
      obtain ⟨s, rfl, rfl, _⟩ := DataW.trod_string hu hr
      have hl := hW s.data.toList.length (by simp [DataW.weights])
      refine ⟨strOf s, ?_⟩
      simp only [CR]
      refine ⟨s, rfl, rfl, ?_⟩
      unfold reachBytes at hl; unfold LIM; omega
    · rename_i e u hu
      simp only [Bool.and_eq_true, decide_eq_true_eq] at h
      obtain ⟨⟨⟨h1, h2⟩, h3⟩, h5⟩ := h
      rcases DataW.trod_slice hu hr with ⟨rfl, _⟩ | ⟨a, len, cap, elems, rest, m, rfl, rfl, rfl, hb, hlc, hcm, hel, hg, _, _⟩
      · refine ⟨([] : List u.El), ?_⟩
        simp only [CR]
        exact ⟨none, 0, 0, rfl, rfl, Nat.le_refl _, by simp, fun i hi => by omega⟩
      · have key : ∀ i, i < len → ∃ x : u.El, ∃ ds, W.cells? base (a.add (i * P.cellsOf e)) (P.cellsOf e) = some ds ∧ CR (allM W) false u ds x := fun i hi => by
          have := hg i hi
          have hs : ∃ y, elems[i]? = some y := ⟨elems[i]'(by omega), by simp [show i < elems.length by omega]⟩
          obtain ⟨y, hy⟩ := hs
          rw [hy, Option.bind_eq_some_iff] at this
          obtain ⟨ds, g1, g2⟩ := this
          obtain ⟨x, hx⟩ := ih e u h1 m ds y g2 (fun k hk => hW k (by
            simp only [DataW.weights, hu, List.mem_cons, List.mem_append]
            exact .inr (.inl (weightsAll_mem (i := i) (by simp [hy]) k hk))))
          exact ⟨x, ds, g1, hx⟩
        obtain ⟨l, hl, hr⟩ := choose_list key
        refine ⟨l, ?_⟩
        simp only [CR]
        have hb2 : len ≤ reachBytes := by
          have := hW ((elems.length + rest.length) * P.bytesOf e) (by simp [DataW.weights, hu])
          have h6 : len * 1 ≤ (elems.length + rest.length) * P.bytesOf e := Nat.mul_le_mul (by omega) h5
          omega
        refine ⟨some a, len, cap, rfl, hl.symm, hlc, by unfold reachBytes at hb2; unfold LIM; omega, fun i hi => ?_⟩
        obtain ⟨ds, g1, g2⟩ := hr i hi
        rw [h2] at g1
        obtain ⟨ds0, g0, _⟩ := hr 0 (by omega)
        rw [h2] at g0
        obtain ⟨_, c2, _, _⟩ := cells_At g0 h3
        have c2 : a.spot = none := by simpa [Addr.add] using c2
        obtain ⟨c1, _, c3, c4⟩ := cells_At g1 h3
        rw [add_spot c2] at c3 c4
        refine ⟨a.block, a.off, ds, ?_, c3, c1, c4, g2⟩
        obtain ⟨ab, ao, as⟩ := a
        simp only at c2; subst c2; rfl
    · rename_i k e k' u hu
      simp only [Bool.and_eq_true, decide_eq_true_eq] at h
      obtain ⟨⟨⟨rfl, h1⟩, h2⟩, h3⟩ := h
      obtain ⟨xs, m, rfl, rfl, hl, hxl, hg⟩ := DataW.trod_array hu hr
      rw [h3] at hl
      have key : ∀ i, i < k → ∃ x : u.El, CR (allM W) false u ((cs.drop (i * u.cells)).take u.cells) x := fun i hi => by
        have := hg i hi
        have hs : ∃ y, xs[i]? = some y := ⟨xs[i]'(by omega), by simp [show i < xs.length by omega]⟩
        obtain ⟨y, hy⟩ := hs
        rw [hy, h2] at this
        exact ih e u h1 m _ y this (fun k hk => hW k (by
          simp only [DataW.weights, hu]
          exact weightsAll_mem (i := i) (by simp [hy]) k hk))
      obtain ⟨l, hll, hr⟩ := choose_list key
      refine ⟨l, ?_⟩
      simp only [CR]
      refine ⟨hll, (List.range k).map (fun i => (cs.drop (i * u.cells)).take u.cells), chunks _ _ _ hl, by simp, fun i hi => ?_⟩
      have : ((List.range k).map (fun i => (cs.drop (i * u.cells)).take u.cells)).getD i [] = (cs.drop (i * u.cells)).take u.cells := by simp [List.getD, hi]
      rw [this]
      refine ⟨?_, hr i hi⟩
      simp only [List.length_take, List.length_drop, hl]
      have : (i + 1) * u.cells ≤ k * u.cells := Nat.mul_le_mul_right _ hi
      rw [Nat.add_mul] at this; omega
    · rename_i ty _ _ fs hu
      simp only [Bool.and_eq_true, decide_eq_true_eq] at h
      obtain ⟨xs, m, rfl, rfl, hl, hxl, hg⟩ := DataW.trod_struct hu hr
      have := dtF_CR (P := P) (H := H) (rec := dtB P n) (m := allM W) (trod := fun t cs => match DataW.trod enc P W base spare held m t cs with | some r => (if ∀ k ∈ r.1.weights P t, k ≤ reachBytes then some r else none) | none => none) (fun t ty cs r h1 h2 => by
          split at h2
          · rename_i r' hr'
            split at h2
            · rename_i hk; cases h2; exact ih t ty h1 m cs _ hr' hk
            · cases h2
          · cases h2) fs.toList 0 ty cs h.1 (fun i f hf => by
        have hf' : fs[i]? = some f := by simpa using hf
        have := hg i f hf'
        have hi : i < xs.length := by
          rw [hxl]
          rcases Nat.lt_or_ge i fs.size with h | h
          · exact h
          · rw [Array.getElem?_eq_none h] at hf'; cases hf'
        refine ⟨xs[i], ?_⟩
        have e : DataW.trod enc P W base spare held m f.type ((cs.drop f.offset).take (P.cellsOf f.type)) = some xs[i] := by rw [this]; simp [hi]
        simp only [e]
        rw [if_pos]
        intro k hk
        refine hW k ?_
        simp only [DataW.weights, hu]
        refine DataW.weights_mem_each (j := i) (t := f.type) (d := xs[i].1) ?_ ?_ k hk
        · simp [hf']
        · simp [hi]) (by rw [hl, h.2]; simp)
      simpa using this
    · cases h
end

section
variable {H : Type} {enc : TypeId × Value → H} {P : Program} {W : World}

theorem dtB_agg {n : Nat} {t : TypeId} {ty : Ty} (h : dtB P n t ty = true) {r : Reach} {base : Nat} {v : Value} (hv : Value.okWide P W r base t v) : (∃ cs, v = .agg cs) ↔ ty.isAgg = true := by
  cases n with
  | zero => simp [dtB] at h
  | succ n =>
    simp only [dtB] at h
    split at h
    · rename_i hu; simp only [Value.okWide, hu, Cell.okWide] at hv
      constructor
      · rintro ⟨cs, rfl⟩; simp [Cell.ok, hu] at hv
      · simp [Ty.isAgg]
    · rename_i hu; simp only [Value.okWide, hu, Cell.okWide] at hv
      constructor
      · rintro ⟨cs, rfl⟩; simp [Cell.ok, hu] at hv
      · simp [Ty.isAgg]
    · rename_i hu; simp only [Value.okWide, hu, Cell.okWide] at hv
      constructor
      · rintro ⟨cs, rfl⟩; simp [Cell.ok, hu] at hv
      · simp [Ty.isAgg]
    · rename_i hu; simp only [Value.okWide, hu, Cell.okWide] at hv
      constructor
      · rintro ⟨cs, rfl⟩; simp [Cell.ok, hu] at hv
      · simp [Ty.isAgg]
    · rename_i hu; simp only [Value.okWide, hu] at hv
      obtain ⟨cs, rfl, _⟩ := hv; simp [Ty.isAgg]
    · rename_i ty _ _ fs hu; simp only [Value.okWide, hu] at hv
      obtain ⟨cs, rfl, _⟩ := hv
      simp only [Bool.and_eq_true] at h
      have : ty.isAgg = true := by
        have h := h.1
        cases hfs : fs.toList <;> rw [hfs] at h <;> cases ty <;> simp_all [dtF, Ty.isAgg]
      simp [this]
    · cases h

theorem dtB_deep : ∀ {n : Nat} {t : TypeId} {ty : Ty}, dtB P n t ty = true → ty.deep = true := by
  intro n
  induction n with
  | zero => intro t ty h; simp [dtB] at h
  | succ n ih =>
    intro t ty h
    simp only [dtB] at h
    split at h
    · rfl
    · rfl
    · rfl
    · simp only [Bool.and_eq_true] at h; simp only [Ty.deep]; exact ih h.1.1.1
    · simp only [Bool.and_eq_true] at h; simp only [Ty.deep]; exact ih h.1.1.2
    · simp only [Bool.and_eq_true] at h
      have key : ∀ (fs : List Field) (off : Nat) (ty : Ty), dtF P (dtB P n) fs off ty = true → ty.deep = true := by
        intro fs
        induction fs with
        | nil => intro off ty h; cases ty <;> simp_all [dtF, Ty.deep]
        | cons f fs ihf =>
          intro off ty h
          cases ty <;> simp only [dtF, Bool.false_eq_true, Bool.and_eq_true] at h
          simp only [Ty.deep, Bool.and_eq_true]
          exact ⟨ih h.1.2, ihf _ _ h.2⟩
      exact key _ _ _ h.1
    · cases h

/-- The arguments, told. -/
theorem args_VR {bs : Nat} : ∀ {ts : List TypeId} {tys : List Ty} {vs : List Value} {ds : List (DataW H)} {ps : List MemPlace}, DataW.TrodAll enc P W 0 (fun _ => true) true ts vs ds ps →
    (∀ (j : Nat) t v, ts[j]? = some t → vs[j]? = some v → Value.okWide P W .any bs t v) → ts.length = tys.length → (∀ (j : Nat) t ty, ts[j]? = some t → tys[j]? = some ty → dtB P 100 t ty = true) → (∀ k ∈ DataW.weightsEach P ts ds, k ≤ reachBytes) →
    ∃ as : List V, as.length = vs.length ∧ as.length = tys.length ∧ (∀ (j : Nat) ty, tys[j]? = some ty → ∃ y, as[j]? = some ⟨ty, y⟩) ∧
      ∀ (j : Nat) (v : Value) (u : V), vs[j]? = some v → as[j]? = some u → u.t.deep = true ∧ VR (allM W) v u
  | [], tys, [], [], ps, _, _, hl, _, _ => by
    have : tys = [] := by cases tys with | nil => rfl | cons a b => simp at hl
    subst this
    exact ⟨[], rfl, rfl, by simp, by simp⟩
  | t :: ts, [], v :: vs, d :: ds, ps, _, _, hl, _, _ => by simp at hl
  | t :: ts, ty :: tys, v :: vs, d :: ds, ps, h, hv, hl, hd, hW => by
    obtain ⟨p, q, h1, h2, _⟩ := h
    obtain ⟨as, e1, e2, e3, e4⟩ := args_VR (tys := tys) h2 (fun j t' v' a b => hv (j + 1) t' v' (by simpa using a) (by simpa using b)) (by simpa using hl) (fun j t' ty' a b => hd (j + 1) t' ty' (by simpa using a) (by simpa using b)) (fun k hk => hW k (by simp [DataW.weightsEach, hk]))
    obtain ⟨fuel, hf⟩ := h1
    have hdt := hd 0 t ty rfl rfl
    obtain ⟨x, hx⟩ := trod_CR 100 t ty hdt fuel _ _ hf (fun k hk => hW k (by simp [DataW.weightsEach, hk]))
    refine ⟨⟨ty, x⟩ :: as, by simp [e1], by simp [e2], fun j ty' hj => ?_, fun j v' u a b => ?_⟩
    · cases j with
      | zero => simp at hj; subst hj; exact ⟨x, rfl⟩
      | succ j => simpa using e3 j ty' (by simpa using hj)
    · cases j with
      | zero =>
        simp at a b; subst a; subst b
        exact ⟨dtB_deep hdt, VR_of_CR hx (dtB_agg hdt (hv 0 t v rfl rfl))⟩
      | succ j => exact e4 j v' u (by simpa using a) (by simpa using b)
  | [], _, _ :: _, _, _, h, _, _, _, _ => h.elim
  | [], _, [], _ :: _, _, h, _, _, _, _ => h.elim
  | _ :: _, _, [], _, _, h, _, _, _, _ => h.elim
  | _ :: _, _, _ :: _, [], _, h, _, _, _, _ => h.elim

theorem trodAll_length : ∀ {ts : List TypeId} {vs : List Value} {ds : List (DataW H)} {ps : List MemPlace}, DataW.TrodAll enc P W 0 (fun _ => true) true ts vs ds ps → ds.length = ts.length ∧ vs.length = ts.length
  | [], [], [], _, _ => ⟨rfl, rfl⟩
  | _ :: _, _ :: _, _ :: _, _, ⟨_, _, _, h, _⟩ => by obtain ⟨h1, h2⟩ := trodAll_length h; exact ⟨by simp [h1], by simp [h2]⟩
  | [], _ :: _, _, _, h => h.elim
  | [], [], _ :: _, _, h => h.elim
  | _ :: _, [], _, _, h => h.elim
  | _ :: _, _ :: _, [], _, h => h.elim

/-- The arguments read behind the call as they did. -/
theorem below_trodAll (hl : laidOutB P = true) {W' : World} (hb : Below W.heap.size W W') : ∀ {ts : List TypeId} {vs : List Value} {ds : List (DataW H)} {ps : List MemPlace}, ts.all (fun t => P.readableRec t && decide (t < P.types.size)) = true →
    DataW.TrodAll enc P W 0 (fun _ => true) true ts vs ds ps → DataW.TrodAll enc P W' 0 (fun b => decide (b < W.heap.size)) true ts vs ds ps
  | [], [], [], _, _, h => h
  | t :: ts, v :: vs, d :: ds, ps, hr, ⟨p, q, h1, h2, e⟩ => by
    simp only [List.all_cons, Bool.and_eq_true, decide_eq_true_eq] at hr
    refine ⟨p, q, Below.trod hl hr.1.1 hr.1.2 h1 hb ?_, below_trodAll hl hb hr.2 h2, e⟩
    obtain ⟨m, hm⟩ := h1
    exact DataW.trod_lt m _ _ _ hm
  | [], _ :: _, _, _, _, h => h.elim
  | [], [], _ :: _, _, _, h => h.elim
  | _ :: _, [], _, _, _, h => h.elim
  | _ :: _, _ :: _, [], _, _, h => h.elim

/-- A law's call. -/
theorem law_calls {f : FuncId} {s : Spec} (hok : CallOk P f s) (hown : s.own = false) (henter : ∀ (args : Array Value) (w : World), (callFunc f args).run P w = .ok (.enter f args) w)
    {tys : List Ty} (hps : s.params = tys.map some) {args : Array Value} {ds : List (DataW H)} {ps : List MemPlace} {ts : List TypeId} (htrod : DataW.TrodAll enc P W 0 (fun _ => true) true ts args.toList ds ps)
    {bs : Nat} (hval : ∀ (j : Nat) t v, ts[j]? = some t → args[j]? = some v → Value.okWide P W .any bs t v) (hl : ts.length = tys.length) (hd : ∀ (j : Nat) t ty, ts[j]? = some t → tys[j]? = some ty → dtB P 100 t ty = true) (hW : ∀ k ∈ DataW.weightsEach P ts ds, k ≤ reachBytes)
    (hlaw : ∀ as : List V, as.length = s.params.length → (∀ (j : Nat) (t : Ty), s.params[j]? = some (some t) → ∃ y, as[j]? = some ⟨t, y⟩) → (∀ u ∈ as, Wf u) → s.run as fun r => r = ⟨.bool, true⟩) :
    Calls P f args W fun e W' => e = .returned (.bool true) ∧ Below W.heap.size W W' := by
  obtain ⟨as, e1, e2, e3, e4⟩ := args_VR (tys := tys) htrod (fun j t v a b => hval j t v a (by simpa using b)) hl hd hW
  have hwf : ∀ u ∈ as, Wf u := fun u hu => by
    obtain ⟨j, hj, rfl⟩ := List.mem_iff_getElem.1 hu
    have hj' : j < args.toList.length := by omega
    exact ⟨_, _, (e4 j (args.toList[j]) as[j] (by simp [hj']) (by simp [hj])).2⟩
  have hty : ∀ (j : Nat) (t : Ty), s.params[j]? = some (some t) → ∃ y, as[j]? = some ⟨t, y⟩ := fun j t hj => by
    rw [hps, List.getElem?_map] at hj
    cases htj : tys[j]? with
    | none => rw [htj] at hj; cases hj
    | some ty => rw [htj] at hj; simp at hj; subst hj; exact e3 j _ htj
  have hpl : as.length = s.params.length := by rw [hps, List.length_map, e2]
  have hrun := hlaw as hpl hty hwf
  have := hok (fun b => b < W.heap.size) W args.toList as _ (fun _ h => h) e1 hpl hty e4 hrun
  rcases this with ⟨_, h⟩ | ⟨v, w', h, _⟩
  · have ha : args.toList.toArray = args := by simp
    rw [ha] at h
    refine h.mono fun e w' ⟨v, he, hres⟩ => ?_
    obtain ⟨r, m, hr, rfl, hext, hs, hrel⟩ := hres
    rw [hown] at hrel
    subst hr
    have := VR.bool hrel.2.2.2
    subst this
    exact ⟨he, ⟨hext.io.1, hext.io.2.2, hext.io.2.1, hext.size, hext.blk⟩⟩
  · rw [henter] at h; cases h
end
end Go.Abs
