/- States of a known shape; functions told without memory. -/
import Derived.Test.YthinfcjijphooaaAbsW
namespace Go.Abs
set_option linter.unusedVariables false
set_option linter.unusedSimpArgs false
open Go

/-! #### Answers that may fail, over any kind of answer -/

def brP {α : Type} (b : Bool) (x y : α) : α := match b with | true => x | false => y
def letP {α β : Type} (e : β) (k : β → α) : α := k e
def gdP {α : Type} (no : α) (b : Bool) (x : α) : α := match b with | true => x | false => no
def onP {α β : Type} (no : α) (o : Option β) (k : β → α) : α := match o with | some b => k b | none => no
def caseP {α A B : Type} (s : A ⊕ B) (f : A → α) (g : B → α) : α := match s with | .inl a => f a | .inr b => g b

theorem optK_br {α : Type} (b : Bool) (x y : Option α) (K : α → Prop) : optK (brP b x y) K = brP b (optK x K) (optK y K) := by cases b <;> rfl
theorem optK_gd {α : Type} (b : Bool) (x : Option α) (K : α → Prop) : optK (gdP none b x) K = gdP False b (optK x K) := by cases b <;> rfl
theorem optK_on {α β : Type} (o : Option β) (k : β → Option α) (K : α → Prop) : optK (onP none o k) K = onP False o (fun b => optK (k b) K) := by cases o <;> rfl
theorem optK_case {α A B : Type} (s : A ⊕ B) (f : A → Option α) (g : B → Option α) (K : α → Prop) : optK (caseP s f g) K = caseP s (fun a => optK (f a) K) (fun b => optK (g b) K) := by cases s <;> rfl
theorem optK_let {α β : Type} (e : β) (k : β → Option α) (K : α → Prop) : optK (letP e k) K = letP e (fun b => optK (k b) K) := rfl
theorem optK_yes {α : Type} (a : α) (K : α → Prop) : optK (some a) K = K a := rfl
theorem optK_no {α : Type} (K : α → Prop) : optK (none : Option α) K = False := rfl

/-- Is a slice nil? It is asked of an empty one, of which that is not told: both ways. -/
def bothP (em : Bool) (A B : Prop) : Prop := (em = true → A) ∧ B
open Classical in
noncomputable def bothO {α : Type} (em : Bool) (A B : Option α) : Option α := match em with | true => if A = B then A else none | false => B
theorem optK_both {α : Type} {em : Bool} {A B : Option α} {K : α → Prop} (h : optK (bothO em A B) K) : bothP em (optK A K) (optK B K) := by
  cases em
  · exact ⟨fun e => by simp at e, h⟩
  · simp only [bothO] at h
    split at h
    · rename_i e; exact ⟨fun _ => h, e ▸ h⟩
    · exact h.elim
theorem bothO_eq {α : Type} {em : Bool} {A B : Option α} (h : em = true → A = B) : bothO em A B = B := by
  cases em
  · rfl
  · simp only [bothO]; rw [if_pos (h rfl)]; exact h rfl

/-! #### Loops -/

theorem sealO_ex {α : Type} (a : α) : ∃ b : α, b = a := ⟨a, rfl⟩
/-- A value that the kernel does not look into. -/
noncomputable def sealO {α : Type} (a : α) : α := Classical.choose (sealO_ex a)
theorem sealO_eq {α : Type} (a : α) : sealO a = a := Classical.choose_spec (sealO_ex a)
theorem fuel_ex : ∃ n : Nat, n = 4611686018427387904 := ⟨_, rfl⟩
/-- How many rounds are looked at. (Sealed: the kernel is not to run loops.) -/
noncomputable def FUEL : Nat := Classical.choose fuel_ex
theorem FUEL_eq : FUEL = 4611686018427387904 := Classical.choose_spec fuel_ex

def whileO {S R : Type} : Nat → (S → Option (S ⊕ R)) → S → Option R
  | 0, _, _ => none
  | n + 1, f, s => match f s with
    | none => none
    | some (.inl s') => whileO n f s'
    | some (.inr r) => some r

theorem while_sound {S R : Type} {pin : Nat} {live outs : List (Nat × Md)} {body : XK → St → Prop} {K : XK} {mk : S → St} {step : S → Option (S ⊕ R)} {fin : R → Prop}
    (hs : ∀ k s, optK (step s) (fun r => caseP r (fun s' => loopN pin live outs body k K (mk s')) fin) → loopN pin live outs body (k + 1) K (mk s)) :
    ∀ n s, optK (whileO n step s) fin → loopN pin live outs body n K (mk s)
  | 0, s, h => h.elim
  | n + 1, s, h => by
    apply hs
    simp only [whileO] at h
    match hstep : step s, h with
    | none, h => exact h
    | some (.inl s'), h => exact while_sound hs n s' h
    | some (.inr r), h => exact h

/-- A loop's end, found by its rounds. -/
theorem whileO_next {S R : Type} {f : S → Option (S ⊕ R)} {s s' : S} {n : Nat} (h : f s = some (.inl s')) : whileO (n + 1) f s = whileO n f s' := by simp [whileO, h]
theorem whileO_done {S R : Type} {f : S → Option (S ⊕ R)} {s : S} {r : R} {n : Nat} (h : f s = some (.inr r)) : whileO (n + 1) f s = some r := by simp [whileO, h]

theorem whileO_mono {S R : Type} {f : S → Option (S ⊕ R)} : ∀ {n m : Nat} {s : S} {r : R}, n ≤ m → whileO n f s = some r → whileO m f s = some r
  | 0, _, _, _, _, h => by simp [whileO] at h
  | n + 1, 0, _, _, hl, _ => by omega
  | n + 1, m + 1, s, r, hl, h => by
    match hf : f s with
    | none => simp [whileO, hf] at h
    | some (.inl s') => rw [whileO_next hf] at h ⊢; exact whileO_mono (by omega) h
    | some (.inr r') => rw [whileO_done hf] at h ⊢; exact h

/-! #### Shapes -/

inductive Sh where
  | val (t : Ty) | ref (t : Ty) (i : Nat) | prt (t : Ty) (i : Nat) | ptr (i : Nat) (p : List Stp) | pair (a b : Sh) | fn (f : Nat) (c : Sh) | tup (c : Sh)

def Sh.ty : Sh → Ty
  | .val t => t | .ref t _ => .rf t | .prt t _ => .rf t | .ptr _ _ => .pt | .pair a b => .pair a.ty b.ty | .fn f c => .fn f c.ty | .tup c => .tup c.ty
def Sh.L : Sh → Type
  | .val t => t.El | .ref _ _ => Unit | .prt _ _ => Nat × Nat | .ptr _ _ => Unit | .pair a b => a.L × b.L | .fn _ c => c.L | .tup c => c.L
def Sh.mk : (s : Sh) → s.L → s.ty.El
  | .val _, x => x | .ref _ i, _ => (i, none) | .prt _ i, x => (i, some x) | .ptr i p, _ => (i, p) | .pair a b, x => (a.mk x.1, b.mk x.2) | .fn _ c, x => c.mk x | .tup c, x => c.mk x
def Sh.dec : (s : Sh) → s.ty.El → Option s.L
  | .val _, x => some x
  | .ref _ i, x => match x with | (j, none) => (match decide (j = i) with | true => some () | false => none) | _ => none
  | .prt _ i, x => match x with | (j, some q) => (match decide (j = i) with | true => some q | false => none) | _ => none
  | .ptr i p, x => match x with | (j, q) => (match decide (j = i) && decide (q = p) with | true => some () | false => none)
  | .pair a b, x => pairO (a.dec x.1) (b.dec x.2)
  | .fn _ c, x => c.dec x
  | .tup c, x => c.dec x

theorem Sh.dec_mk : ∀ (s : Sh) (x : s.ty.El) (l : s.L), s.dec x = some l → x = s.mk l
  | .val _, x, l, h => Option.some.inj h
  | .ref _ i, (j, none), l, h => by
    have h : (match decide (j = i) with | true => some () | false => none) = some l := h
    by_cases e : j = i
    · subst e; rfl
    · simp [e] at h
  | .ref _ i, (j, some _), l, h => nomatch h
  | .prt _ i, (j, none), l, h => nomatch h
  | .prt _ i, (j, some q), l, h => by
    have h : (match decide (j = i) with | true => some q | false => none) = some l := h
    by_cases e : j = i
    · subst e
      rw [show decide (j = j) = true by simp] at h
      have := Option.some.inj h; subst this; rfl
    · rw [show decide (j = i) = false by simp [e]] at h; cases h
  | .ptr i p, (j, q), l, h => by
    have h : (match decide (j = i) && decide (q = p) with | true => some () | false => none) = some l := h
    by_cases e : j = i ∧ q = p
    · obtain ⟨rfl, rfl⟩ := e; rfl
    · rw [show (decide (j = i) && decide (q = p)) = false by simpa using e] at h; cases h
  | .pair a b, x, l, h => by
    obtain ⟨hu, hv⟩ := pairO_some (A := a.L) (B := b.L) h
    have h1 := Sh.dec_mk a _ _ hu
    have h2 := Sh.dec_mk b _ _ hv
    show x = (a.mk l.1, b.mk l.2)
    rw [← h1, ← h2]
    rfl
  | .fn _ c, x, l, h => Sh.dec_mk c x l h
  | .tup c, x, l, h => Sh.dec_mk c x l h

def Sh.mkV (s : Sh) (x : s.L) : V := ⟨s.ty, s.mk x⟩
def Sh.decV (s : Sh) (v : V) : Option s.L := if h : v.t = s.ty then s.dec (h ▸ v.x) else none

theorem Sh.decV_mk {s : Sh} {v : V} {l : s.L} (h : s.decV v = some l) : v = s.mkV l := by
  unfold Sh.decV at h
  split at h
  · rename_i e
    obtain ⟨t, x⟩ := v
    simp only at e; subst e
    have := Sh.dec_mk s x l h
    show (⟨_, x⟩ : V) = ⟨_, s.mk l⟩
    rw [← this]
  · cases h

def EL : List (Option Sh) → Type
  | [] => Unit | none :: r => EL r | some s :: r => s.L × EL r
def mkE : (l : List (Option Sh)) → EL l → List V
  | [], _ => [] | none :: r, x => V.undef :: mkE r x | some s :: r, x => s.mkV x.1 :: mkE r x.2
def decE : (l : List (Option Sh)) → List V → Option (EL l)
  | [], [] => some ()
  | none :: r, v :: e => match v with | ⟨.undef, _⟩ => decE r e | _ => none
  | some s :: r, v :: e => pairO (s.decV v) (decE r e)
  | _, _ => none

theorem decE_mk : ∀ (l : List (Option Sh)) (e : List V) (x : EL l), decE l e = some x → e = mkE l x := by
  intro l
  induction l with
  | nil => intro e x h; cases e with | nil => rfl | cons v e => cases h
  | cons o r ih =>
    intro e x h
    cases o with
    | none =>
      cases e with
      | nil => cases h
      | cons v e =>
        obtain ⟨t, y⟩ := v
        cases t <;> first | cases h | skip
        have := ih e x h
        show _ :: e = V.undef :: mkE r x
        rw [← this]; rfl
    | some s =>
      cases e with
      | nil => cases h
      | cons v e =>
        obtain ⟨h1, h2⟩ := pairO_some (A := s.L) (B := EL r) h
        show v :: e = s.mkV x.1 :: mkE r x.2
        rw [← Sh.decV_mk h1, ← ih e _ h2]

inductive OSh where
  | non | box (s : Sh) (fz : Bool) | row (t : Ty) (fz : Bool)
def OL : List OSh → Type
  | [] => Unit | .non :: r => OL r | .box s _ :: r => s.L × OL r | .row t _ :: r => List t.El × OL r
def mkH : (l : List OSh) → OL l → List Obj
  | [], _ => [] | .non :: r, x => .none :: mkH r x | .box s z :: r, x => .box (s.mkV x.1) z :: mkH r x.2 | .row t z :: r, x => .row t x.1 z :: mkH r x.2
def decH : (l : List OSh) → List Obj → Option (OL l)
  | [], [] => some ()
  | .non :: r, o :: e => match o with | .none => decH r e | _ => none
  | .box s z :: r, o :: e => match o with
    | .box v z' => match decide (z' = z) with | true => pairO (s.decV v) (decH r e) | false => none
    | _ => none
  | .row t z :: r, o :: e => match o with
    | .row t' l z' => if h : t' = t then (match decide (z' = z) with | true => pairO (some (h ▸ l : List t.El)) (decH r e) | false => none) else none
    | _ => none
  | _, _ => none

theorem decH_mk : ∀ (l : List OSh) (e : List Obj) (x : OL l), decH l e = some x → e = mkH l x := by
  intro l
  induction l with
  | nil => intro e x h; cases e with | nil => rfl | cons v e => cases h
  | cons o r ih =>
    intro e x h
    cases o with
    | non =>
      cases e with
      | nil => cases h
      | cons v e =>
        cases v <;> first | cases h | skip
        have := ih e x h
        show _ :: e = Obj.none :: mkH r x
        rw [← this]
    | box s z =>
      cases e with
      | nil => cases h
      | cons v e =>
        cases v with
        | box v z' =>
          by_cases hz : z' = z
          · subst hz
            have h : (match decide (z' = z') with | true => pairO (s.decV v) (decH r e) | false => none) = some x := h
            rw [show decide (z' = z') = true by simp] at h
            obtain ⟨h1, h2⟩ := pairO_some (A := s.L) (B := OL r) h
            show Obj.box v z' :: e = Obj.box (s.mkV x.1) z' :: mkH r x.2
            rw [← Sh.decV_mk h1, ← ih e _ h2]
          · have h : (match decide (z' = z) with | true => pairO (s.decV v) (decH r e) | false => none) = some x := h
            rw [show decide (z' = z) = false by simp [hz]] at h; cases h
        | _ => cases h
    | row t z =>
      cases e with
      | nil => cases h
      | cons v e =>
        cases v with
        | row t' l' z' =>
          have h : (if h : t' = t then (match decide (z' = z) with | true => pairO (some (h ▸ l' : List t.El)) (decH r e) | false => none) else none) = some x := h
          by_cases ht : t' = t
          · subst ht
            rw [dif_pos rfl] at h
            by_cases hz : z' = z
            · subst hz
              rw [show decide (z' = z') = true by simp] at h
              obtain ⟨h1, h2⟩ := pairO_some (A := List t'.El) (B := OL r) h
              have h1 := Option.some.inj h1
              show Obj.row t' l' z' :: e = Obj.row t' x.1 z' :: mkH r x.2
              rw [← h1, ← ih e _ h2]
            · rw [show decide (z' = z) = false by simp [hz]] at h; cases h
          · rw [dif_neg ht] at h; cases h
        | _ => cases h

structure SSh where
  env : List (Option Sh)
  H : List OSh

/-- So many slots, of which some count. -/
def slots (n : Nat) (l : List (Nat × Sh)) : List (Option Sh) := (List.range n).map fun i => l.lookup i

def SSh.L (s : SSh) : Type := EL s.env × OL s.H
def SSh.mk' (s : SSh) (x : s.L) : St := ⟨mkE s.env x.1, mkH s.H x.2⟩
def SSh.dec (s : SSh) (st : St) : Option s.L := pairO (decE s.env st.env) (decH s.H st.H)
theorem SSh.dec_mk {s : SSh} {st : St} {x : s.L} (h : s.dec st = some x) : st = s.mk' x := by
  obtain ⟨h1, h2⟩ := pairO_some (A := EL s.env) (B := OL s.H) h
  obtain ⟨e, H⟩ := st
  show St.mk e H = ⟨mkE _ x.1, mkH _ x.2⟩
  rw [← decE_mk _ _ _ h1, ← decH_mk _ _ _ h2]

/-! #### Parts told by a function -/

/-- What a part does that begins in a state of a known shape. -/
def runS {X : Type} (sh : SSh) (f : sh.L → Option X) (fin : sh.L → X → XK → Prop) : St → XK → Prop := fun st K => optK (sh.dec st) fun s => optK (f s) fun r => fin s r K

/-- The ends of a part: three ways on, each of which forgets what does not count. -/
def contK (pin : Nat) (pn po pr : List (Nat × Md)) (kN : St → Prop) (kO : Nat → St → Prop) (kR : St → Prop) : XK := fun e st' => match e with
  | .norm => optK (gcS pin pn st') kN
  | .out id => optK (gcS pin po st') (kO id)
  | .ret => optK (gcS pin pr st') kR

theorem sumK_cont (pin : Nat) (s : Summ) (K : XK) : sumK pin s K = contK pin s.pn s.po s.pr (K .norm) (fun id => K (.out id)) (K .ret) := by
  funext e st; cases e <;> rfl

theorem loopN_cont {pin : Nat} {live outs : List (Nat × Md)} {body : XK → St → Prop} {s : Summ} {K : XK} (k : Nat) (st : St) :
    loopN pin live outs body (k + 1) (sumK pin s K) st = body (contK pin live outs s.pr (loopN pin live outs body k (sumK pin s K)) (fun id st' => optK (gcS pin s.po st') (K (.out id))) (K .ret)) st := by
  show body _ st = body _ st
  congr 1

/-- A loop as a part. -/
theorem loop_ok {cx : Ctx} {c : Code} {live outs pre pn po pr : List (Nat × Md)} {a : MT} {sh : SSh} {X : Type} {f : sh.L → Option X} {fin : sh.L → X → XK → Prop}
    (hgc : ∀ s, gcS cx.pin live (sh.mk' s) = some (sh.mk' s))
    (h : ∀ s (K : XK), optK (f s) (fun r => fin s r K) → loopN cx.pin live outs (exec cx c a) cx.fuel (sumK cx.pin ⟨pre, pn, po, pr, runS sh f fin⟩ K) (sh.mk' s)) :
    Ob.ok cx ⟨⟨pre, pn, po, pr, runS sh f fin⟩, .loop c, .loop live outs a⟩ := by
  intro st K hr
  obtain ⟨s, hs, hf⟩ := optK_some hr
  rw [SSh.dec_mk hs]
  show optK (gcS cx.pin live (sh.mk' s)) _
  rw [hgc]
  exact h s K hf

theorem loop_okc {cx : Ctx} {c c0 : Code} {live outs pre pn po pr : List (Nat × Md)} {a : MT} {sh : SSh} {X : Type} {f : sh.L → Option X} {fin : sh.L → X → XK → Prop}
    (hc : c0 = .loop c) (hgc : ∀ s, gcS cx.pin live (sh.mk' s) = some (sh.mk' s))
    (h : ∀ s (K : XK), optK (f s) (fun r => fin s r K) → loopN cx.pin live outs (exec cx c a) cx.fuel (sumK cx.pin ⟨pre, pn, po, pr, runS sh f fin⟩ K) (sh.mk' s)) :
    Ob.ok cx ⟨⟨pre, pn, po, pr, runS sh f fin⟩, c0, .loop live outs a⟩ := by
  subst hc; exact loop_ok hgc h

/-- Any other part. -/
theorem part_ok {cx : Ctx} {c : Code} {m : MT} {pre pn po pr : List (Nat × Md)} {sh : SSh} {X : Type} {f : sh.L → Option X} {fin : sh.L → X → XK → Prop}
    (h : ∀ s (K : XK), optK (f s) (fun r => fin s r K) → exec cx c m (contK cx.pin pn po pr (K .norm) (fun id => K (.out id)) (K .ret)) (sh.mk' s)) :
    Ob.ok cx ⟨⟨pre, pn, po, pr, runS sh f fin⟩, c, m⟩ := by
  intro st K hr
  obtain ⟨s, hs, hf⟩ := optK_some hr
  rw [SSh.dec_mk hs, sumK_cont]
  exact h s K hf

/-- A contract that answers by a function without memory. -/
def optSpec {R : Type} (params : List (Option Ty)) (flat own : Bool) (f : List V → Option R) (ans : R → V) : Spec := ⟨params, flat, own, fun as K => optK (f as) fun r => K (ans r)⟩
theorem optSpec_det {R : Type} (params : List (Option Ty)) (flat own : Bool) (f : List V → Option R) (ans : R → V) : (optSpec params flat own f ans).Det := fun as K h => by
  obtain ⟨r, hr, h⟩ := optK_some h
  refine ⟨ans r, h, ?_⟩
  show optK (f as) _
  rw [hr]; rfl

theorem callsDet_of1 {cx : Ctx} (l : List (Nat × Spec)) (h : ∀ f, cx.calls f = l.lookup f) (hd : ∀ p ∈ l, p.2.Det) : ∀ f s, cx.calls f = some s → s.Det := by
  intro f s hs
  rw [h] at hs
  have : ∀ l : List (Nat × Spec), l.lookup f = some s → ∃ p ∈ l, p.2 = s := by
    intro l
    induction l with
    | nil => intro h; simp at h
    | cons p r ih =>
      intro h
      obtain ⟨a, b⟩ := p
      simp only [List.lookup] at h
      split at h
      · simp only [Option.some.injEq] at h; exact ⟨(a, b), by simp, h⟩
      · obtain ⟨q, hq, e⟩ := ih h; exact ⟨q, by simp [hq], e⟩
  obtain ⟨p, hp, e⟩ := this l hs
  rw [← e]; exact hd p hp

theorem callsOk_of1 {P : Program} {cx : Ctx} (l : List (Nat × Spec)) (h : ∀ f, cx.calls f = l.lookup f) (hd : ∀ p ∈ l, CallOk P p.1 p.2) : ∀ f s, cx.calls f = some s → CallOk P f s := by
  intro f s hs
  rw [h] at hs
  have : ∀ l : List (Nat × Spec), l.lookup f = some s → (f, s) ∈ l := by
    intro l
    induction l with
    | nil => intro h; simp at h
    | cons p r ih =>
      intro h
      obtain ⟨a, b⟩ := p
      simp only [List.lookup] at h
      split at h
      · rename_i e
        simp only [Option.some.injEq] at h; subst h
        have : f = a := by simpa using e
        subst this; simp
      · exact List.mem_cons_of_mem _ (ih h)
  exact hd _ (this l hs)

theorem lookup_mem.{u} {β : Type u} {f : Nat} {s : β} : ∀ {l : List (Nat × β)}, l.lookup f = some s → (f, s) ∈ l
  | [], h => by simp at h
  | (a, b) :: r, h => by
    simp only [List.lookup] at h
    split at h
    · rename_i e
      simp only [Option.some.injEq] at h; subst h
      have : f = a := by simpa using e
      subst this; simp
    · exact List.mem_cons_of_mem _ (lookup_mem h)

theorem callsDet_of {cx : Ctx} (l : List (Nat × Spec)) (lh : List (Nat × HSpec)) (h : ∀ f, cx.calls f = l.lookup f) (hh : ∀ f, cx.hcalls f = lh.lookup f) (hd : ∀ p ∈ l, p.2.Det) (hhd : ∀ p ∈ lh, p.2.Det) : CallsDet cx :=
  ⟨fun f s hs => hd (f, s) (lookup_mem ((h f).symm.trans hs)), fun f s hs => hhd (f, s) (lookup_mem ((hh f).symm.trans hs))⟩
theorem callsOk_of {P : Program} {cx : Ctx} (l : List (Nat × Spec)) (lh : List (Nat × HSpec)) (h : ∀ f, cx.calls f = l.lookup f) (hh : ∀ f, cx.hcalls f = lh.lookup f) (hd : ∀ p ∈ l, CallOk P p.1 p.2) (hhd : ∀ p ∈ lh, HCallOk P p.1 p.2) : CallsOk P cx :=
  ⟨fun f s hs => hd (f, s) (lookup_mem ((h f).symm.trans hs)), fun f s hs => hhd (f, s) (lookup_mem ((hh f).symm.trans hs))⟩

/-- A contract of a function that is handed objects, by a function without memory: what it is handed has a known shape. -/
def optHSpec {R : Type} (params : List (Option Ty)) (sh : SSh) (f : sh.L → Option R) (ans : R → V × List Obj) : HSpec :=
  ⟨params, fun as H K => optK (sh.dec ⟨as, H⟩) fun s => optK (f s) fun r => K (ans r).1 (ans r).2⟩
theorem optHSpec_det {R : Type} (params : List (Option Ty)) (sh : SSh) (f : sh.L → Option R) (ans : R → V × List Obj) : (optHSpec params sh f ans).Det := fun as H K h => by
  obtain ⟨s, hs, h⟩ := optK_some h
  obtain ⟨r, hr, h⟩ := optK_some h
  refine ⟨(ans r).1, (ans r).2, h, ?_⟩
  show optK (sh.dec _) _
  rw [hs]; show optK (f s) _
  rw [hr]; exact ⟨rfl, rfl⟩
theorem optHSpec_run {R : Type} {params : List (Option Ty)} {sh : SSh} {f : sh.L → Option R} {ans : R → V × List Obj} {as : List V} {H : List Obj} {K : V → List Obj → Prop} (h : (optHSpec params sh f ans).run as H K) :
    ∃ s, as = (sh.mk' s).env ∧ H = (sh.mk' s).H ∧ optK (f s) (fun r => K (ans r).1 (ans r).2) := by
  obtain ⟨s, hs, h⟩ := optK_some h
  have := SSh.dec_mk hs
  exact ⟨s, by rw [← this], by rw [← this], h⟩

/-! #### One function, several contracts -/

def typedB : List (Option Ty) → List V → Bool
  | [], [] => true
  | some t :: ps, v :: vs => decide (v.t = t) && typedB ps vs
  | none :: ps, _ :: vs => typedB ps vs
  | _, _ => false
def meetP : List (Option Ty) → List (Option Ty) → List (Option Ty)
  | p :: ps, q :: qs => (if p = q then p else none) :: meetP ps qs
  | _, _ => []

def orSpec (a b : Spec) : Spec := ⟨meetP a.params b.params, a.flat, a.own, fun xs K => match typedB a.params xs with
  | true => a.run xs K
  | false => match typedB b.params xs with | true => b.run xs K | false => False⟩

theorem typedB_get : ∀ {ps : List (Option Ty)} {as : List V}, typedB ps as = true → as.length = ps.length ∧ ∀ (j : Nat) (t : Ty), ps[j]? = some (some t) → ∃ y, as[j]? = some ⟨t, y⟩
  | [], [], _ => ⟨rfl, by simp⟩
  | [], _ :: _, h => by simp [typedB] at h
  | some t :: ps, [], h => by simp [typedB] at h
  | none :: ps, [], h => by simp [typedB] at h
  | some t :: ps, v :: vs, h => by
    simp only [typedB, Bool.and_eq_true, decide_eq_true_eq] at h
    obtain ⟨h1, h2⟩ := typedB_get h.2
    refine ⟨by simp [h1], fun j u hj => ?_⟩
    cases j with
    | zero =>
      simp at hj; subst hj
      obtain ⟨vt, vx⟩ := v
      obtain ⟨e, _⟩ := h
      simp only at e; subst e
      exact ⟨vx, rfl⟩
    | succ j => simpa using h2 j u (by simpa using hj)
  | none :: ps, v :: vs, h => by
    simp only [typedB] at h
    obtain ⟨h1, h2⟩ := typedB_get h
    refine ⟨by simp [h1], fun j u hj => ?_⟩
    cases j with
    | zero => simp at hj
    | succ j => simpa using h2 j u (by simpa using hj)

theorem orSpec_ok {P : Program} {f : Nat} {a b : Spec} (ha : CallOk P f a) (hb : CallOk P f b) (_ : a.params.length = b.params.length) (ho : b.own = a.own) (hf : b.flat = a.flat) : CallOk P f (orSpec a b) := by
  intro S w vs as K hS hl hp hty hrel hrun
  simp only [orSpec] at hrun
  split at hrun
  · rename_i h
    obtain ⟨h1, h2⟩ := typedB_get h
    exact ha S w vs as K hS hl h1 h2 hrel hrun
  · split at hrun
    · rename_i h
      obtain ⟨h1, h2⟩ := typedB_get h
      refine (hb S w vs as K hS hl h1 h2 hrel hrun).mono fun v w' hr => ?_
      unfold Res at hr ⊢
      rw [ho, hf] at hr
      exact hr
    · exact hrun.elim
theorem orSpec_det {a b : Spec} (ha : a.Det) (hb : b.Det) : (orSpec a b).Det := by
  intro as K h
  simp only [orSpec] at h ⊢
  split at h
  · exact ha as K h
  · split at h
    · exact hb as K h
    · exact h.elim

def orHSpec (fits : List V → List Obj → Bool) (a b : HSpec) : HSpec := ⟨a.params, fun xs H K => match fits xs H with | true => a.run xs H K | false => b.run xs H K⟩
theorem orHSpec_ok {P : Program} {f : Nat} {fits : List V → List Obj → Bool} {a b : HSpec} (ha : HCallOk P f a) (hb : HCallOk P f b) : HCallOk P f (orHSpec fits a b) := by
  intro M0 vs as K hS hfr hl hrel hrun
  simp only [orHSpec] at hrun
  split at hrun
  · exact ha M0 vs as K hS hfr hl hrel hrun
  · exact hb M0 vs as K hS hfr hl hrel hrun
theorem orHSpec_det {fits : List V → List Obj → Bool} {a b : HSpec} (ha : a.Det) (hb : b.Det) : (orHSpec fits a b).Det := by
  intro as H K h
  simp only [orHSpec] at h ⊢
  split at h
  · exact ha as H K h
  · exact hb as H K h

def seqA : Code → Code | .seq a _ => a | c => c
def seqB : Code → Code | .seq _ b => b | c => c
def condA : Code → Code | .cond _ a _ => a | c => c
def condB : Code → Code | .cond _ _ b => b | c => c
def blockC : Code → Code | .block _ c => c | .loop c => c | .scope c => c | c => c
def bodyOf (f : Func) : Code := f.body.getD .skip

theorem args0 {as : List V} (hl : as.length = ([] : List (Option Ty)).length) (_ : ∀ (j : Nat) (t : Ty), ([] : List (Option Ty))[j]? = some (some t) → ∃ y, as[j]? = some ⟨t, y⟩) : as = [] := by
  cases as with | nil => rfl | cons a r => simp at hl
theorem argsC {t : Ty} {ps : List (Option Ty)} {as : List V} (hl : as.length = (some t :: ps).length) (h : ∀ (j : Nat) (u : Ty), (some t :: ps)[j]? = some (some u) → ∃ y, as[j]? = some ⟨u, y⟩) :
    ∃ x r, as = ⟨t, x⟩ :: r ∧ r.length = ps.length ∧ ∀ (j : Nat) (u : Ty), ps[j]? = some (some u) → ∃ y, r[j]? = some ⟨u, y⟩ := by
  cases as with
  | nil => simp at hl
  | cons a r =>
    obtain ⟨y, hy⟩ := h 0 t rfl
    have : a = ⟨t, y⟩ := by simpa using hy
    exact ⟨y, r, by rw [this], by simpa using hl, fun j u hj => by simpa using h (j + 1) u (by simpa using hj)⟩
theorem args1 {a : Ty} {as : List V} (hl : as.length = ([some a] : List (Option Ty)).length) (h : ∀ (j : Nat) (t : Ty), [some a][j]? = some (some t) → ∃ y, as[j]? = some ⟨t, y⟩) : ∃ x, as = [⟨a, x⟩] := by
  obtain ⟨x, r, rfl, hl, h⟩ := argsC hl h
  exact ⟨x, by rw [args0 hl h]⟩
theorem args2 {a b : Ty} {as : List V} (hl : as.length = ([some a, some b] : List (Option Ty)).length) (h : ∀ (j : Nat) (t : Ty), [some a, some b][j]? = some (some t) → ∃ y, as[j]? = some ⟨t, y⟩) : ∃ x y, as = [⟨a, x⟩, ⟨b, y⟩] := by
  obtain ⟨x, r, rfl, hl, h⟩ := argsC hl h
  obtain ⟨y, rfl⟩ := args1 hl h
  exact ⟨x, y, rfl⟩
theorem args3 {a b c : Ty} {as : List V} (hl : as.length = ([some a, some b, some c] : List (Option Ty)).length) (h : ∀ (j : Nat) (t : Ty), [some a, some b, some c][j]? = some (some t) → ∃ y, as[j]? = some ⟨t, y⟩) : ∃ x y z, as = [⟨a, x⟩, ⟨b, y⟩, ⟨c, z⟩] := by
  obtain ⟨x, r, rfl, hl, h⟩ := argsC hl h
  obtain ⟨y, z, rfl⟩ := args2 hl h
  exact ⟨x, y, z, rfl⟩
theorem args4 {a b c d : Ty} {as : List V} (hl : as.length = ([some a, some b, some c, some d] : List (Option Ty)).length) (h : ∀ (j : Nat) (t : Ty), [some a, some b, some c, some d][j]? = some (some t) → ∃ y, as[j]? = some ⟨t, y⟩) : ∃ x y z u, as = [⟨a, x⟩, ⟨b, y⟩, ⟨c, z⟩, ⟨d, u⟩] := by
  obtain ⟨x, r, rfl, hl, h⟩ := argsC hl h
  obtain ⟨y, z, u, rfl⟩ := args3 hl h
  exact ⟨x, y, z, u, rfl⟩
theorem args5 {a b c d e : Ty} {as : List V} (hl : as.length = ([some a, some b, some c, some d, some e] : List (Option Ty)).length) (h : ∀ (j : Nat) (t : Ty), [some a, some b, some c, some d, some e][j]? = some (some t) → ∃ y, as[j]? = some ⟨t, y⟩) : ∃ x y z u v, as = [⟨a, x⟩, ⟨b, y⟩, ⟨c, z⟩, ⟨d, u⟩, ⟨e, v⟩] := by
  obtain ⟨x, r, rfl, hl, h⟩ := argsC hl h
  obtain ⟨y, z, u, v, rfl⟩ := args4 hl h
  exact ⟨x, y, z, u, v, rfl⟩

end Go.Abs
