/- strings.Repeat, by the shelf. -/
import Derived.Test.YthinfcjijphooaaSX
import Derived.Shelf.Strings.Repeat
import Derived.Ground.Names2Prog
namespace Go.Proofs
open Go.Shelf Go.RowKit Go.Lib
def Try.lays105_ren : Go.Shelf.Ren := ⟨fun | 105 => 16 | 212 => 93 | 99 => 94 | 165 => 95 | 166 => 96 | 170 => 97 | 169 => 98 | 263 => 171 | 264 => 172 | 206 => 173 | 240 => 174 | 241 => 175 | 276 => 200 | 277 => 201 | n => n, fun | 9 => 9 | 3 => 3 | 4 => 4 | 20 => 20 | 0 => 0 | 46 => 59 | 109 => 165 | 5 => 5 | 72 => 169 | 76 => 173 | 51 => 27 | 146 => 234 | 53 => 31 | 148 => 236 | 70 => 167 | 37 => 23 | 75 => 172 | 127 => 238 | 164 => 253 | 80 => 130 | n => n, fun | n => n⟩
theorem Try.lays105 : Go.Proofs.Lays.n105 Try.prog Try.lays105_ren := {
  mixed := by kernel_rfl
  f99 := Try.func94.trans (congrArg some (by kernel_rfl))
  f105 := Try.func16.trans (congrArg some (by kernel_rfl))
  f165 := Try.func95.trans (congrArg some (by kernel_rfl))
  f166 := Try.func96.trans (congrArg some (by kernel_rfl))
  f169 := Try.func98.trans (congrArg some (by kernel_rfl))
  f170 := Try.func97.trans (congrArg some (by kernel_rfl))
  f206 := Try.func173.trans (congrArg some (by kernel_rfl))
  f212 := Try.func93.trans (congrArg some (by kernel_rfl))
  f240 := Try.func174.trans (congrArg some (by kernel_rfl))
  f241 := Try.func175.trans (congrArg some (by kernel_rfl))
  f263 := Try.func171.trans (congrArg some (by kernel_rfl))
  f264 := Try.func172.trans (congrArg some (by kernel_rfl))
  f276 := Try.func200.trans (congrArg some (by kernel_rfl))
  f277 := Try.func201.trans (congrArg some (by kernel_rfl))
  t0 := Try.underlying0
  a0 := Try.isAgg0
  z0 := Try.sizeOf0
  v0 := Try.zeroValue0
  t3 := Try.underlying3
  a3 := Try.isAgg3
  z3 := Try.sizeOf3
  v3 := Try.zeroValue3
  t4 := Try.underlying4
  a4 := Try.isAgg4
  z4 := Try.sizeOf4
  v4 := Try.zeroValue4
  t5 := Try.underlying5
  a5 := Try.isAgg5
  z5 := Try.sizeOf5
  v5 := Try.zeroValue5
  t9 := Try.underlying9
  a9 := Try.isAgg9
  z9 := Try.sizeOf9
  v9 := Try.zeroValue9
  t20 := Try.underlying20
  a20 := Try.isAgg20
  z20 := Try.sizeOf20
  v20 := Try.zeroValue20
  t37 := Try.underlying23
  a37 := Try.isAgg23
  z37 := Try.sizeOf23
  v37 := Try.zeroValue23
  t46 := Try.underlying59
  a46 := Try.isAgg59
  z46 := Try.sizeOf59
  v46 := Try.zeroValue59
  t51 := Try.underlying27
  a51 := Try.isAgg27
  z51 := Try.sizeOf27
  v51 := Try.zeroValue27
  t53 := Try.underlying31
  a53 := Try.isAgg31
  z53 := Try.sizeOf31
  v53 := Try.zeroValue31
  t70 := Try.underlying167
  a70 := Try.isAgg167
  z70 := Try.sizeOf167
  v70 := Try.zeroValue167
  t72 := Try.underlying169
  a72 := Try.isAgg169
  z72 := Try.sizeOf169
  v72 := Try.zeroValue169
  t75 := Try.underlying172
  a75 := Try.isAgg172
  z75 := Try.sizeOf172
  v75 := Try.zeroValue172
  t76 := Try.underlying173
  a76 := Try.isAgg173
  z76 := Try.sizeOf173
  v76 := Try.zeroValue173
  t109 := Try.underlying165
  a109 := Try.isAgg165
  z109 := Try.sizeOf165
  v109 := Try.zeroValue165
  t127 := Try.underlying238
  a127 := Try.isAgg238
  z127 := Try.sizeOf238
  v127 := Try.zeroValue238
  t146 := Try.underlying234
  a146 := Try.isAgg234
  z146 := Try.sizeOf234
  v146 := Try.zeroValue234
  t148 := Try.underlying236
  a148 := Try.isAgg236
  z148 := Try.sizeOf236
  v148 := Try.zeroValue236
  t164 := Try.underlying253
  a164 := Try.isAgg253
  z164 := Try.sizeOf253
  v164 := Try.zeroValue253 }
theorem Try.Builder_Extra_105 : Builder.Extra Try.prog Try.lays105_ren := {
  sizeBuilder := by kernel_rfl
  liesBuilder := by kernel_rfl
  t5 := Try.underlying5
  a5 := Try.isAgg5
  z5 := Try.sizeOf5
  v5 := Try.zeroValue5
  infoByte := by kernel_rfl
  cellsByte := by kernel_rfl
  sizeByte := by kernel_rfl
  neB5 := by decide }
theorem Try.strings_Repeat (s : ByteArray) (c : Nat) (w : World) (hc : c ≤ 9223372036854775807) (hlen : s.size * c ≤ 140737488355328) :
    Calls Try.prog 16 #[.string s, .int .i64 c] w fun e w' => e = .returned (.string ⟨(Lib.repeatL s.data.toList c).toArray⟩) ∧ Below w.heap.size w w' := Any.strings_Repeat Try.lays105 Try.Builder_Extra_105 s c w hc hlen
end Go.Proofs
namespace Go.Abs
set_option linter.unusedVariables false
set_option linter.unusedSimpArgs false
open Go Go.Proofs

def strRep (x : List Int) (c : Int) : Option (List Int) :=
  if 0 ≤ c ∧ c ≤ 9223372036854775807 ∧ (x.length : Int) * c ≤ 140737488355328 then some (List.replicate c.toNat x).flatten else none
noncomputable def f16_spec : Spec := optSpec [some .str, some (.int .i64)] true false (fun xs => match xs with | [a0, a1] => onP none (a0.as .str) fun x0 => onP none (a1.as (.int .i64)) fun x1 => strRep x0 x1 | _ => none) (fun r => ⟨.str, r⟩)
theorem f16_det : f16_spec.Det := optSpec_det _ _ _ _ _
theorem repeatL_map (l : List UInt8) (c : Nat) : (Lib.repeatL l c).map (fun b => (b.toNat : Int)) = (List.replicate c (l.map fun b => (b.toNat : Int))).flatten := by
  induction c with
  | zero => simp [Lib.repeatL]
  | succ c ih => simp [Lib.repeatL, List.replicate_succ, ih] 
theorem f16_enter (vs : Array Value) (w : World) : (callFunc 16 vs).run Try.prog w = .ok (.enter 16 vs) w := by
  have hb : Try.f16.body = some (bodyOf Try.f16) := by kernel_rfl
  have hn : Try.f16.name ≠ "runtime.NumGoroutine" := by decide
  simp only [callFunc]; simp [Try.func16, hn, hb]
theorem f16_ok : CallOk Try.prog 16 f16_spec := by
  intro S w vs as_ K hS hl hp hty hrel hrunK
  obtain ⟨x0, h0⟩ := hty 0 .str rfl
  obtain ⟨x1, h1⟩ := hty 1 (.int .i64) rfl
  match as_, hp, h0, h1 with
  | [_, _], _, h0, h1 =>
    simp at h0 h1; subst h0; subst h1
    match vs, hl with
    | [v0, v1], _ =>
      have r0 := (hrel 0 v0 _ rfl rfl).2
      have r1 := (hrel 1 v1 _ rfl rfl).2
      simp only [VR, Ty.isAgg, CR] at r0 r1
      obtain ⟨s, e0, hs, hsl⟩ := r0
      simp at e0; subst e0
      obtain ⟨e1, hk⟩ := r1
      simp at e1; subst e1
      have hrunK : optK (strRep x0 x1) (fun r => K ⟨.str, r⟩) := hrunK
      unfold strRep at hrunK
      split at hrunK
      · rename_i hc
        have hrunK : K ⟨.str, (List.replicate x1.toNat x0).flatten⟩ := hrunK
        have hlen : s.data.toList.length = x0.length := by rw [← hs]; simp [strOf]
        have hsz : s.size = x0.length := by rw [← hlen]; exact Lib.size_eq s
        have hx1 : ((x1.toNat : Nat) : Int) = x1 := Int.toNat_of_nonneg hc.1
        have hcap : x0.length * x1.toNat ≤ 140737488355328 := by
          have h3 := hc.2.2
          rw [← hx1] at h3
          have h4 : ((x0.length * x1.toNat : Nat) : Int) ≤ 140737488355328 := by rw [Int.natCast_mul]; exact h3
          omega
        have hcc : x1.toNat ≤ 9223372036854775807 := by have := hc.2.1; omega
        have hcall := Try.strings_Repeat s x1.toNat w hcc (by rw [hsz]; exact hcap)
        rw [hx1] at hcall
        left
        refine ⟨f16_enter _ w, hcall.mono fun e w' ⟨he, hw⟩ => ⟨_, he, ?_⟩⟩
        have hnone : ∀ b, ¬ Own ⟨fun _ => none, [], S, w'⟩ b := fun b ⟨j, j1, _⟩ => by simp at j1
        have hcell : ∀ b, b < w.heap.size → ∀ o, w'.cell? ⟨b, o, none⟩ = w.cell? ⟨b, o, none⟩ := fun b hb o => by
          simp only [World.cell?, hw.block b hb]
        have hfro : ∀ b, b < w.heap.size → ∀ o, w'.frozen? ⟨b, o, none⟩ = w.frozen? ⟨b, o, none⟩ := fun b hb o => by
          simp only [World.frozen?, hw.block b hb]
        refine ⟨_, ⟨fun _ => none, [], S, w'⟩, hrunK, rfl, ⟨hw.size, fun b hb => hb, ⟨hw.os, hw.output, hw.tape⟩, hw.block, fun b hb => ⟨hnone b, hcell b hb, hfro b hb, fun h => h⟩⟩, StR.nil _ _ _ fun b hb => Nat.lt_of_lt_of_le (hS b hb) hw.size, ?_⟩
        refine ⟨rfl, rfl, fun _ => rfl, ?_⟩
        refine ⟨_, rfl, ?_, ?_⟩
        · show (Lib.repeatL s.data.toList x1.toNat).map _ = _
          rw [repeatL_map, ← hs]; rfl
        · show (Lib.repeatL s.data.toList x1.toNat).length ≤ LIM
          rw [Lib.repeatL_length, hlen, Nat.mul_comm]
          exact Nat.le_trans hcap (by decide)
      · exact hrunK.elim
end Go.Abs
