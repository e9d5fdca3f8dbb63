/- Written by this session's program hprint.py out of the loaded functions: what each function computes, and the proof that the machine's call does just that. -/
import Derived.Test.YtaaoeaojimjikaaHFnStandardFactorsx0
import Derived.Test.YtaaoeaojimjikaaHFnStandardFactorsx1
import Derived.Test.YtaaoeaojimjikaaHFnStandardFactorsx2
import Derived.Test.YtaaoeaojimjikaaHFnStandardFactorsx3
import Derived.Test.YtaaoeaojimjikaaHFnStandardFactorsx5
import Derived.Test.YtaaoeaojimjikaaHFnStandardFactorsx6
import Derived.Test.YtaaoeaojimjikaaHFnStandardFactorsx7
import Derived.Test.YtaaoeaojimjikaaHFnStandardFactorsx8
namespace Go.Proofs.Ytaaoeaojimjikaa.HFnStandardFactors
open Go.RowKit Go.Proofs.YtaaoeaojimjikaaW.PrintWords Go.Proofs.YtaaoeaojimjikaaW.PrintLast Go.Proofs.YtaaoeaojimjikaaW.PrintMore
attribute [local go_sem] max2_int min2_int max_two min_two max_three min_three max_four min_four   -- for this text's walks alone
set_option linter.unusedVariables false
set_option linter.unusedSimpArgs false

/-! ### laws_FnStandardFactors: function 10 -/
mutual
def laws_FnStandardFactors.j0 : Nat → List Int → List Int → List Int → Bool → Bool → Option (Bool)
  | 0, _, _, _, _, _ => none
  | k + 1, x5, x6, x7, x8, x61 => if x61 = true then (some false) else ((impl_BracketText.f k x5).bind fun bt355 => ((spec_BracketText.f k x5).bind fun bt357 => ((impl_IsLyndon.f k x5).bind fun bt359 => (if (bt355.2 != bt357.2) = true then (laws_FnStandardFactors.j1 k x5 x6 x7 x8 bt355.1 bt355.2 true) else (if bt355.1.toList = bt357.1.toList then (if bt359.2 = true then (if (bt355.2 != bt359.1) = true then (laws_FnStandardFactors.j1 k x5 x6 x7 x8 bt355.1 bt355.2 true) else (if bt355.2 = true then (laws_FnStandardFactors.j1 k x5 x6 x7 x8 bt355.1 bt355.2 (x8 != (decide ((x5.length : Int) > 1)))) else (laws_FnStandardFactors.j1 k x5 x6 x7 x8 bt355.1 bt355.2 (x8 != false)))) else (if (bt355.2 != false) = true then (laws_FnStandardFactors.j1 k x5 x6 x7 x8 bt355.1 bt355.2 true) else (if bt355.2 = true then (laws_FnStandardFactors.j1 k x5 x6 x7 x8 bt355.1 bt355.2 (x8 != (decide ((x5.length : Int) > 1)))) else (laws_FnStandardFactors.j1 k x5 x6 x7 x8 bt355.1 bt355.2 (x8 != false))))) else (laws_FnStandardFactors.j1 k x5 x6 x7 x8 bt355.1 bt355.2 true))))))
def laws_FnStandardFactors.j1 : Nat → List Int → List Int → List Int → Bool → ByteArray → Bool → Bool → Option (Bool)
  | 0, _, _, _, _, _, _, _ => none
  | k + 1, x5, x6, x7, x8, x12, x13, x102 => if x102 = true then (some false) else (if x13 = true then ((impl_WordText.f k x5).bind fun bt361 => (laws_FnStandardFactors.l0 k x5 x6 x7 x8 x12 bt361.1 bt361.2 (⟨#[]⟩ : ByteArray) 0)) else (some true))
def laws_FnStandardFactors.l0 : Nat → List Int → List Int → List Int → Bool → ByteArray → ByteArray → Bool → ByteArray → Int → Option (Bool)
  | 0, _, _, _, _, _, _, _, _, _ => none
  | k + 1, x5, x6, x7, x8, x12, x18, x19, x20, x21 => if x21 < (x12.size : Int) then (if 0 ≤ x21 then (if (bt x12 x21) ≥ 48 then (if (bt x12 x21) ≤ 57 then (if x21 ≤ (wrap64 (x21 + 1)) then (if (wrap64 (x21 + 1)) ≤ (x12.size : Int) then (if x20.size + (x12.extract (x21 : Int).toNat ((wrap64 (x21 + 1)) : Int).toNat).size ≤ 9223372036854775807 then (laws_FnStandardFactors.l0 k x5 x6 x7 x8 x12 x18 x19 (x20 ++ (x12.extract (x21 : Int).toNat ((wrap64 (x21 + 1)) : Int).toNat)) (wrap64 (x21 + 1))) else (none)) else (none)) else (none)) else (laws_FnStandardFactors.l0 k x5 x6 x7 x8 x12 x18 x19 x20 (wrap64 (x21 + 1)))) else (laws_FnStandardFactors.l0 k x5 x6 x7 x8 x12 x18 x19 x20 (wrap64 (x21 + 1)))) else (none)) else (if x19 = true then (if x20.toList = x18.toList then (laws_FnStandardFactors.j3 k x5 x6 x7 x8 x12 ((x12.size : Int) != (wrap64 ((wrap64 (4 * (x5.length : Int))) - 3)))) else (laws_FnStandardFactors.j3 k x5 x6 x7 x8 x12 true)) else (laws_FnStandardFactors.j3 k x5 x6 x7 x8 x12 true))
def laws_FnStandardFactors.j3 : Nat → List Int → List Int → List Int → Bool → ByteArray → Bool → Option (Bool)
  | 0, _, _, _, _, _, _ => none
  | k + 1, x5, x6, x7, x8, x12, x148 => if x148 = true then (some false) else (if x8 = true then ((impl_IsLyndon.f k x6).bind fun bt363 => ((impl_IsLyndon.f k x7).bind fun bt365 => ((impl_BracketText.f k x6).bind fun bt367 => ((impl_BracketText.f k x7).bind fun bt369 => (if bt363.2 = true then (if bt365.2 = true then (if bt367.2 = true then (if bt369.2 = true then (if bt363.1 = true then (if bt365.1 = true then ((laws_tLess.f k x6 x7).bind fun t371 => (if t371 = true then ((some (([] : List Int) : List Int)).bind fun y372 => (if y372.length + x6.length < 17592186044416 then ((some (y372 ++ x6 : List Int)).bind fun y375 => (if y375.length + x7.length < 17592186044416 then ((laws_tSame.f k (y375 ++ x7) x5).bind fun t381 => (if t381 = true then (if 1 + bt367.1.size ≤ 9223372036854775807 then (if (1 + bt367.1.size) + 1 ≤ 9223372036854775807 then (if (1 + bt367.1.size + 1) + bt369.1.size ≤ 9223372036854775807 then (if (1 + bt367.1.size + 1 + bt369.1.size) + 1 ≤ 9223372036854775807 then (some (x12.toList == (((((⟨#[91]⟩ : ByteArray) ++ bt367.1) ++ (⟨#[44]⟩ : ByteArray)) ++ bt369.1) ++ (⟨#[93]⟩ : ByteArray)).toList)) else (none)) else (none)) else (none)) else (none)) else (some false))) else (none))) else (none))) else (some false))) else (some false)) else (some false)) else (some false)) else (some false)) else (some false)) else (some false)))))) else (some true))
end
def laws_FnStandardFactors.f (k : Nat) (l0 : List Int) (l1 : List Int) : Option (Bool) := (laws_big.f l0 l1).bind fun t335 => (if t335 = true then (some true) else ((spec_DrawStandardFactors.f k l0).bind fun t336 => ((impl_StandardFactors.f k t336).bind fun bt339 => ((spec_StandardFactors.f k t336).bind fun bt346 => (if (bt339.2.2 != bt346.2.2) = true then (laws_FnStandardFactors.j0 k t336 bt339.1 bt339.2.1 bt339.2.2 true) else ((laws_tSame.f k bt339.1 bt346.1).bind fun t353 => (if t353 = true then ((laws_tSame.f k bt339.2.1 bt346.2.1).bind fun t354 => (laws_FnStandardFactors.j0 k t336 bt339.1 bt339.2.1 bt339.2.2 (!t354))) else (laws_FnStandardFactors.j0 k t336 bt339.1 bt339.2.1 bt339.2.2 true))))))))
theorem laws_FnStandardFactors.mono_l : ∀ k, (∀ y0 y1 y2 y3 y4, LeO (laws_FnStandardFactors.j0 k y0 y1 y2 y3 y4) (laws_FnStandardFactors.j0 (k + 1) y0 y1 y2 y3 y4)) ∧ (∀ y0 y1 y2 y3 y4 y5 y6, LeO (laws_FnStandardFactors.j1 k y0 y1 y2 y3 y4 y5 y6) (laws_FnStandardFactors.j1 (k + 1) y0 y1 y2 y3 y4 y5 y6)) ∧ (∀ y0 y1 y2 y3 y4 y5 y6 y7 y8, LeO (laws_FnStandardFactors.l0 k y0 y1 y2 y3 y4 y5 y6 y7 y8) (laws_FnStandardFactors.l0 (k + 1) y0 y1 y2 y3 y4 y5 y6 y7 y8)) ∧ (∀ y0 y1 y2 y3 y4 y5, LeO (laws_FnStandardFactors.j3 k y0 y1 y2 y3 y4 y5) (laws_FnStandardFactors.j3 (k + 1) y0 y1 y2 y3 y4 y5))
  | 0 => ⟨fun _ _ _ _ _ r h => by simp [laws_FnStandardFactors.j0] at h, fun _ _ _ _ _ _ _ r h => by simp [laws_FnStandardFactors.j1] at h, fun _ _ _ _ _ _ _ _ _ r h => by simp [laws_FnStandardFactors.l0] at h, fun _ _ _ _ _ _ r h => by simp [laws_FnStandardFactors.j3] at h⟩
  | k + 1 => by
    obtain ⟨ih0, ih1, ih2, ih3⟩ := laws_FnStandardFactors.mono_l k
    refine ⟨?_, ?_, ?_, ?_⟩
    · intro y0 y1 y2 y3 y4
      unfold laws_FnStandardFactors.j0
      repeat' first
      | (with_reducible exact ih0 _ _ _ _ _)
      | (with_reducible exact ih1 _ _ _ _ _ _ _)
      | (with_reducible exact ih2 _ _ _ _ _ _ _ _ _)
      | (with_reducible exact ih3 _ _ _ _ _ _)
      | (with_reducible exact impl_BracketText.mono _ _)
      | (with_reducible exact impl_IsLyndon.mono _ _)
      | (with_reducible exact impl_StandardFactors.mono _ _)
      | (with_reducible exact impl_WordText.mono _ _)
      | (with_reducible exact laws_tLess.mono _ _ _)
      | (with_reducible exact laws_tSame.mono _ _ _)
      | (with_reducible exact spec_BracketText.mono _ _)
      | (with_reducible exact spec_DrawStandardFactors.mono _ _)
      | (with_reducible exact spec_StandardFactors.mono _ _)
      | (with_reducible exact LeO.refl _)
      | (with_reducible exact LeO.none _)
      | (with_reducible refine LeO.ite ?_ ?_)
      | (with_reducible refine LeO.bind ?_ (fun _ => ?_))
      | exact ih0 _ _ _ _ _
      | exact ih1 _ _ _ _ _ _ _
      | exact ih2 _ _ _ _ _ _ _ _ _
      | exact ih3 _ _ _ _ _ _
      | exact impl_BracketText.mono _ _
      | exact impl_IsLyndon.mono _ _
      | exact impl_StandardFactors.mono _ _
      | exact impl_WordText.mono _ _
      | exact laws_tLess.mono _ _ _
      | exact laws_tSame.mono _ _ _
      | exact spec_BracketText.mono _ _
      | exact spec_DrawStandardFactors.mono _ _
      | exact spec_StandardFactors.mono _ _
      | exact LeO.none _
      | refine LeO.ite ?_ ?_
      | refine LeO.bind ?_ (fun _ => ?_)
    · intro y0 y1 y2 y3 y4 y5 y6
      unfold laws_FnStandardFactors.j1
      repeat' first
      | (with_reducible exact ih0 _ _ _ _ _)
      | (with_reducible exact ih1 _ _ _ _ _ _ _)
      | (with_reducible exact ih2 _ _ _ _ _ _ _ _ _)
      | (with_reducible exact ih3 _ _ _ _ _ _)
      | (with_reducible exact impl_BracketText.mono _ _)
      | (with_reducible exact impl_IsLyndon.mono _ _)
      | (with_reducible exact impl_StandardFactors.mono _ _)
      | (with_reducible exact impl_WordText.mono _ _)
      | (with_reducible exact laws_tLess.mono _ _ _)
      | (with_reducible exact laws_tSame.mono _ _ _)
      | (with_reducible exact spec_BracketText.mono _ _)
      | (with_reducible exact spec_DrawStandardFactors.mono _ _)
      | (with_reducible exact spec_StandardFactors.mono _ _)
      | (with_reducible exact LeO.refl _)
      | (with_reducible exact LeO.none _)
      | (with_reducible refine LeO.ite ?_ ?_)
      | (with_reducible refine LeO.bind ?_ (fun _ => ?_))
      | exact ih0 _ _ _ _ _
      | exact ih1 _ _ _ _ _ _ _
      | exact ih2 _ _ _ _ _ _ _ _ _
      | exact ih3 _ _ _ _ _ _
      | exact impl_BracketText.mono _ _
      | exact impl_IsLyndon.mono _ _
      | exact impl_StandardFactors.mono _ _
      | exact impl_WordText.mono _ _
      | exact laws_tLess.mono _ _ _
      | exact laws_tSame.mono _ _ _
      | exact spec_BracketText.mono _ _
      | exact spec_DrawStandardFactors.mono _ _
      | exact spec_StandardFactors.mono _ _
      | exact LeO.none _
      | refine LeO.ite ?_ ?_
      | refine LeO.bind ?_ (fun _ => ?_)
    · intro y0 y1 y2 y3 y4 y5 y6 y7 y8
      unfold laws_FnStandardFactors.l0
      repeat' first
      | (with_reducible exact ih0 _ _ _ _ _)
      | (with_reducible exact ih1 _ _ _ _ _ _ _)
      | (with_reducible exact ih2 _ _ _ _ _ _ _ _ _)
      | (with_reducible exact ih3 _ _ _ _ _ _)
      | (with_reducible exact impl_BracketText.mono _ _)
      | (with_reducible exact impl_IsLyndon.mono _ _)
      | (with_reducible exact impl_StandardFactors.mono _ _)
      | (with_reducible exact impl_WordText.mono _ _)
      | (with_reducible exact laws_tLess.mono _ _ _)
      | (with_reducible exact laws_tSame.mono _ _ _)
      | (with_reducible exact spec_BracketText.mono _ _)
      | (with_reducible exact spec_DrawStandardFactors.mono _ _)
      | (with_reducible exact spec_StandardFactors.mono _ _)
      | (with_reducible exact LeO.refl _)
      | (with_reducible exact LeO.none _)
      | (with_reducible refine LeO.ite ?_ ?_)
      | (with_reducible refine LeO.bind ?_ (fun _ => ?_))
      | exact ih0 _ _ _ _ _
      | exact ih1 _ _ _ _ _ _ _
      | exact ih2 _ _ _ _ _ _ _ _ _
      | exact ih3 _ _ _ _ _ _
      | exact impl_BracketText.mono _ _
      | exact impl_IsLyndon.mono _ _
      | exact impl_StandardFactors.mono _ _
      | exact impl_WordText.mono _ _
      | exact laws_tLess.mono _ _ _
      | exact laws_tSame.mono _ _ _
      | exact spec_BracketText.mono _ _
      | exact spec_DrawStandardFactors.mono _ _
      | exact spec_StandardFactors.mono _ _
      | exact LeO.none _
      | refine LeO.ite ?_ ?_
      | refine LeO.bind ?_ (fun _ => ?_)
    · intro y0 y1 y2 y3 y4 y5
      unfold laws_FnStandardFactors.j3
      repeat' first
      | (with_reducible exact ih0 _ _ _ _ _)
      | (with_reducible exact ih1 _ _ _ _ _ _ _)
      | (with_reducible exact ih2 _ _ _ _ _ _ _ _ _)
      | (with_reducible exact ih3 _ _ _ _ _ _)
      | (with_reducible exact impl_BracketText.mono _ _)
      | (with_reducible exact impl_IsLyndon.mono _ _)
      | (with_reducible exact impl_StandardFactors.mono _ _)
      | (with_reducible exact impl_WordText.mono _ _)
      | (with_reducible exact laws_tLess.mono _ _ _)
      | (with_reducible exact laws_tSame.mono _ _ _)
      | (with_reducible exact spec_BracketText.mono _ _)
      | (with_reducible exact spec_DrawStandardFactors.mono _ _)
      | (with_reducible exact spec_StandardFactors.mono _ _)
      | (with_reducible exact LeO.refl _)
      | (with_reducible exact LeO.none _)
      | (with_reducible refine LeO.ite ?_ ?_)
      | (with_reducible refine LeO.bind ?_ (fun _ => ?_))
      | exact ih0 _ _ _ _ _
      | exact ih1 _ _ _ _ _ _ _
      | exact ih2 _ _ _ _ _ _ _ _ _
      | exact ih3 _ _ _ _ _ _
      | exact impl_BracketText.mono _ _
      | exact impl_IsLyndon.mono _ _
      | exact impl_StandardFactors.mono _ _
      | exact impl_WordText.mono _ _
      | exact laws_tLess.mono _ _ _
      | exact laws_tSame.mono _ _ _
      | exact spec_BracketText.mono _ _
      | exact spec_DrawStandardFactors.mono _ _
      | exact spec_StandardFactors.mono _ _
      | exact LeO.none _
      | refine LeO.ite ?_ ?_
      | refine LeO.bind ?_ (fun _ => ?_)
theorem laws_FnStandardFactors.mono : ∀ a0 a1 k, LeO (laws_FnStandardFactors.f k a0 a1) (laws_FnStandardFactors.f (k + 1) a0 a1) := by
  intro a0 a1 k
  obtain ⟨ih0, ih1, ih2, ih3⟩ := laws_FnStandardFactors.mono_l k
  unfold laws_FnStandardFactors.f
  repeat' first
      | (with_reducible exact ih0 _ _ _ _ _)
      | (with_reducible exact ih1 _ _ _ _ _ _ _)
      | (with_reducible exact ih2 _ _ _ _ _ _ _ _ _)
      | (with_reducible exact ih3 _ _ _ _ _ _)
      | (with_reducible exact impl_BracketText.mono _ _)
      | (with_reducible exact impl_IsLyndon.mono _ _)
      | (with_reducible exact impl_StandardFactors.mono _ _)
      | (with_reducible exact impl_WordText.mono _ _)
      | (with_reducible exact laws_tLess.mono _ _ _)
      | (with_reducible exact laws_tSame.mono _ _ _)
      | (with_reducible exact spec_BracketText.mono _ _)
      | (with_reducible exact spec_DrawStandardFactors.mono _ _)
      | (with_reducible exact spec_StandardFactors.mono _ _)
      | (with_reducible exact LeO.refl _)
      | (with_reducible exact LeO.none _)
      | (with_reducible refine LeO.ite ?_ ?_)
      | (with_reducible refine LeO.bind ?_ (fun _ => ?_))
      | exact ih0 _ _ _ _ _
      | exact ih1 _ _ _ _ _ _ _
      | exact ih2 _ _ _ _ _ _ _ _ _
      | exact ih3 _ _ _ _ _ _
      | exact impl_BracketText.mono _ _
      | exact impl_IsLyndon.mono _ _
      | exact impl_StandardFactors.mono _ _
      | exact impl_WordText.mono _ _
      | exact laws_tLess.mono _ _ _
      | exact laws_tSame.mono _ _ _
      | exact spec_BracketText.mono _ _
      | exact spec_DrawStandardFactors.mono _ _
      | exact spec_StandardFactors.mono _ _
      | exact LeO.none _
      | refine LeO.ite ?_ ?_
      | refine LeO.bind ?_ (fun _ => ?_)
set_option maxHeartbeats 8000000 in
set_option maxRecDepth 100000 in
theorem laws_FnStandardFactors.calls (k : Nat) (A0 : Option Addr) (c0 : Nat) (l0 : List Int) (A1 : Option Addr) (c1 : Nat) (l1 : List Int) (r : Bool) (w : World) (hr0 : Kd.C (Kd.int .u8) w A0 l0.length l0) (hc0 : l0.length ≤ c0) (hr1 : Kd.C (Kd.int .u8) w A1 l1.length l1) (hc1 : l1.length ≤ c1) (h : laws_FnStandardFactors.f k l0 l1 = some r) :
    Calls Try.prog 10 #[.slice A0 l0.length c0, .slice A1 l1.length c1] w fun e w' => e = .returned (.bool r) ∧ Below w.heap.size w w' := by
  have HR0 := Aside0.mk hr0
  have HC0 := Aside0.mk hc0
  clear hr0 hc0
  have HR1 := Aside0.mk hr1
  have HC1 := Aside0.mk hc1
  clear hr1 hc1
  have HB := Aside0.mk (Below.refl w.heap.size w)
  have H : ((laws_big.f l0 l1).bind fun t335 => (if t335 = true then (some true) else ((spec_DrawStandardFactors.f k l0).bind fun t336 => ((impl_StandardFactors.f k t336).bind fun bt339 => ((spec_StandardFactors.f k t336).bind fun bt346 => (if (bt339.2.2 != bt346.2.2) = true then (laws_FnStandardFactors.j0 k t336 bt339.1 bt339.2.1 bt339.2.2 true) else ((laws_tSame.f k bt339.1 bt346.1).bind fun t353 => (if t353 = true then ((laws_tSame.f k bt339.2.1 bt346.2.1).bind fun t354 => (laws_FnStandardFactors.j0 k t336 bt339.1 bt339.2.1 bt339.2.2 (!t354))) else (laws_FnStandardFactors.j0 k t336 bt339.1 bt339.2.1 bt339.2.2 true))))))))) = some r := h
  clear h
  replace H := Option.bind_eq_some_iff.mp H
  obtain ⟨t335, A30, H⟩ := H
  replace H : (if t335 = true then (some true) else ((spec_DrawStandardFactors.f k l0).bind fun t336 => ((impl_StandardFactors.f k t336).bind fun bt339 => ((spec_StandardFactors.f k t336).bind fun bt346 => (if (bt339.2.2 != bt346.2.2) = true then (laws_FnStandardFactors.j0 k t336 bt339.1 bt339.2.1 bt339.2.2 true) else ((laws_tSame.f k bt339.1 bt346.1).bind fun t353 => (if t353 = true then ((laws_tSame.f k bt339.2.1 bt346.2.1).bind fun t354 => (laws_FnStandardFactors.j0 k t336 bt339.1 bt339.2.1 bt339.2.2 (!t354))) else (laws_FnStandardFactors.j0 k t336 bt339.1 bt339.2.1 bt339.2.2 true)))))))) = some r := H
  have A3 := Aside0.mk A30
  clear A30
  by_cases c4 : t335 = true
  · as_aux_lemma =>
      subst c4
      have H1 : (some true) = some r := by rw [if_pos rfl] at H; exact H
      clear H
      have H := H1
      clear H1
      obtain rfl := Option.some.inj H
      go_enter Try.func10, Try.ntmps10
      go_wp2_with (first | ((with_reducible refine gate_callee (f := 15) rfl ?_); refine goesL_ (some 32) rfl rfl Try.func15 (by kernel_rfl) rfl #[.slice A0 l0.length c0, .slice A1 l1.length c1] rfl (by (try simp only [List.map_toArray, List.map_cons, List.map_nil]); first | done | rfl | (simp only [List.length_drop, List.length_take]; rfl)) ?_; (with_reducible refine (laws_big.calls _ _ l0 _ _ l1 true _ ?side1 ?side2 ?side3 ?side4 A3.out).mono ?_); (case side1 => repeat (first | exact HR0.out | (with_reducible refine Kd.C_alloc ?_ _) | (with_reducible refine Kd.C_drewN ?_ _) | (with_reducible refine Kd.C_drew ?_))); (case side2 => exact HC0.out); (case side3 => repeat (first | exact HR1.out | (with_reducible refine Kd.C_alloc ?_ _) | (with_reducible refine Kd.C_drewN ?_ _) | (with_reducible refine Kd.C_drew ?_))); (case side4 => exact HC1.out); rintro e w' ⟨rfl, ⟨nd, rfl⟩⟩; refine ⟨_, rfl, ?_⟩))
      go_ret
      exact ⟨by first | rfl | (simp [errW_none, errW_some] <;> rfl) | (simp [*, errW_none, errW_some] <;> rfl), by repeat (first | (with_reducible first | exact HB.out | apply below_alloc | apply pw_below_drewN | apply below_drew1) | exact HB.out)⟩
  · replace c4 := Bool.eq_false_iff.mpr c4
    subst c4
    have H1 : ((spec_DrawStandardFactors.f k l0).bind fun t336 => ((impl_StandardFactors.f k t336).bind fun bt339 => ((spec_StandardFactors.f k t336).bind fun bt346 => (if (bt339.2.2 != bt346.2.2) = true then (laws_FnStandardFactors.j0 k t336 bt339.1 bt339.2.1 bt339.2.2 true) else ((laws_tSame.f k bt339.1 bt346.1).bind fun t353 => (if t353 = true then ((laws_tSame.f k bt339.2.1 bt346.2.1).bind fun t354 => (laws_FnStandardFactors.j0 k t336 bt339.1 bt339.2.1 bt339.2.2 (!t354))) else (laws_FnStandardFactors.j0 k t336 bt339.1 bt339.2.1 bt339.2.2 true))))))) = some r := by rw [if_neg (show ¬ (false = true) by decide)] at H; exact H
    clear H
    have H := H1
    clear H1
    replace H := Option.bind_eq_some_iff.mp H
    obtain ⟨t336, A50, H⟩ := H
    replace H : ((impl_StandardFactors.f k t336).bind fun bt339 => ((spec_StandardFactors.f k t336).bind fun bt346 => (if (bt339.2.2 != bt346.2.2) = true then (laws_FnStandardFactors.j0 k t336 bt339.1 bt339.2.1 bt339.2.2 true) else ((laws_tSame.f k bt339.1 bt346.1).bind fun t353 => (if t353 = true then ((laws_tSame.f k bt339.2.1 bt346.2.1).bind fun t354 => (laws_FnStandardFactors.j0 k t336 bt339.1 bt339.2.1 bt339.2.2 (!t354))) else (laws_FnStandardFactors.j0 k t336 bt339.1 bt339.2.1 bt339.2.2 true)))))) = some r := H
    have A5 := Aside0.mk A50
    clear A50
    replace H := Option.bind_eq_some_iff.mp H
    obtain ⟨⟨t339, t340, t341⟩, A60, H⟩ := H
    replace H : ((spec_StandardFactors.f k t336).bind fun bt346 => (if (t341 != bt346.2.2) = true then (laws_FnStandardFactors.j0 k t336 t339 t340 t341 true) else ((laws_tSame.f k t339 bt346.1).bind fun t353 => (if t353 = true then ((laws_tSame.f k t340 bt346.2.1).bind fun t354 => (laws_FnStandardFactors.j0 k t336 t339 t340 t341 (!t354))) else (laws_FnStandardFactors.j0 k t336 t339 t340 t341 true))))) = some r := H
    have A6 := Aside0.mk A60
    clear A60
    replace H := Option.bind_eq_some_iff.mp H
    obtain ⟨⟨t346, t347, t348⟩, A70, H⟩ := H
    replace H : (if (t341 != t348) = true then (laws_FnStandardFactors.j0 k t336 t339 t340 t341 true) else ((laws_tSame.f k t339 t346).bind fun t353 => (if t353 = true then ((laws_tSame.f k t340 t347).bind fun t354 => (laws_FnStandardFactors.j0 k t336 t339 t340 t341 (!t354))) else (laws_FnStandardFactors.j0 k t336 t339 t340 t341 true)))) = some r := H
    have A7 := Aside0.mk A70
    clear A70
    have HC8 := Aside0.mk H
    clear H
    go_enter Try.func10, Try.ntmps10
    go_upto_region 6 with (first | ((with_reducible refine gate_callee (f := 15) rfl ?_); refine goesL_ (some 32) rfl rfl Try.func15 (by kernel_rfl) rfl #[.slice A0 l0.length c0, .slice A1 l1.length c1] rfl (by (try simp only [List.map_toArray, List.map_cons, List.map_nil]); first | done | rfl | (simp only [List.length_drop, List.length_take]; rfl)) ?_; (with_reducible refine (laws_big.calls _ _ l0 _ _ l1 false _ ?side1 ?side2 ?side3 ?side4 A3.out).mono ?_); (case side1 => repeat (first | exact HR0.out | (with_reducible refine Kd.C_alloc ?_ _) | (with_reducible refine Kd.C_drewN ?_ _) | (with_reducible refine Kd.C_drew ?_))); (case side2 => exact HC0.out); (case side3 => repeat (first | exact HR1.out | (with_reducible refine Kd.C_alloc ?_ _) | (with_reducible refine Kd.C_drewN ?_ _) | (with_reducible refine Kd.C_drew ?_))); (case side4 => exact HC1.out); rintro e w' ⟨rfl, ⟨nd, rfl⟩⟩; refine ⟨_, rfl, ?_⟩) | ((with_reducible refine gate_callee (f := 39) rfl ?_); refine goesL_ (some 34) rfl rfl Try.func39 (by kernel_rfl) rfl #[.slice A0 l0.length c0] rfl (by (try simp only [List.map_toArray, List.map_cons, List.map_nil]); first | done | rfl | (simp only [List.length_drop, List.length_take]; rfl)) ?_; (with_reducible refine (spec_DrawStandardFactors.calls k _ _ l0 t336 _ ?side1 ?side2 A5.out).mono ?_); (case side1 => repeat (first | exact HR0.out | (with_reducible refine Kd.C_alloc ?_ _) | (with_reducible refine Kd.C_drewN ?_ _) | (with_reducible refine Kd.C_drew ?_))); (case side2 => exact HC0.out); rintro e w9 ⟨v337, rfl, ho0, hb⟩; refine ⟨_, rfl, ?_⟩; have n0_ := Aside0.mk (Kd.R_lower ho0 (below_size (by repeat (first | (with_reducible first | exact HB.out | apply below_alloc | apply pw_below_drewN | apply below_drew1) | exact HB.out)))); have n1_ := Aside0.mk (below_step (by repeat (first | (with_reducible first | exact HB.out | apply below_alloc | apply pw_below_drewN | apply below_drew1) | exact HB.out)) hb); clear HB; have HO338 := n0_; have HB := n1_; clear n0_ n1_; (try clear hb); (try clear hb2); (try clear hk); (try clear hi); (try clear ho0); obtain ⟨Ao10, co10, eo10⟩ := Kd.R_slice HO338.out; subst eo10) | ((with_reducible refine gate_callee (f := 40) rfl ?_); refine goesL_ (some 37) rfl rfl Try.func40 (by kernel_rfl) rfl #[.slice Ao10 t336.length co10] rfl (by (try simp only [List.map_toArray, List.map_cons, List.map_nil]); first | done | rfl | (simp only [List.length_drop, List.length_take]; rfl)) ?_; (with_reducible refine (impl_StandardFactors.calls k _ _ t336 t339 t340 t341 _ ?side1 ?side2 A6.out).mono ?_); (case side1 => repeat (first | exact (Kd.R_reads' HO338.out).2.2 | (with_reducible refine Kd.C_alloc ?_ _) | (with_reducible refine Kd.C_drewN ?_ _) | (with_reducible refine Kd.C_drew ?_))); (case side2 => exact (Kd.R_reads' HO338.out).2.1); rintro e w11 ⟨v342, v344, rfl, ho0, ho1, hb⟩; refine ⟨_, rfl, ?_⟩; have n0_ := Aside0.mk (Kd.R_mono (Kd.R_told (Kd.R_told (Kd.R_old (by (with_reducible repeat (first | apply Kd.R_alloc | apply Kd.R_drewN | apply Kd.R_drew)); (first | exact HO338.out | (have hz_ := HO338.out; (try simp only [ob_] at hz_); (try simp only [ob_]); exact hz_))) hb) (Kd.R_base ho0)) (Kd.R_base ho1)) (fun _ h_ => h_.1)); have n1_ := Aside0.mk (Kd.R_lower (Kd.R_new' ho0 (Kd.R_lt (by (with_reducible repeat (first | apply Kd.R_alloc | apply Kd.R_drewN | apply Kd.R_drew)); (first | exact HO338.out | (have hz_ := HO338.out; (try simp only [ob_] at hz_); (try simp only [ob_]); exact hz_))))) (below_size (by repeat (first | (with_reducible first | exact HB.out | apply below_alloc | apply pw_below_drewN | apply below_drew1) | exact HB.out)))); have n2_ := Aside0.mk (Kd.R_lower (Kd.R_new' ho1 (Kd.R_lt (by (with_reducible repeat (first | apply Kd.R_alloc | apply Kd.R_drewN | apply Kd.R_drew)); (first | exact HO338.out | (have hz_ := HO338.out; (try simp only [ob_] at hz_); (try simp only [ob_]); exact hz_))))) (below_size (by repeat (first | (with_reducible first | exact HB.out | apply below_alloc | apply pw_below_drewN | apply below_drew1) | exact HB.out)))); have n3_ := Aside0.mk (below_step (by repeat (first | (with_reducible first | exact HB.out | apply below_alloc | apply pw_below_drewN | apply below_drew1) | exact HB.out)) hb); clear HO338; clear HB; have HO338 := n0_; have HO343 := n1_; have HO345 := n2_; have HB := n3_; clear n0_ n1_ n2_ n3_; (try clear hb); (try clear hb2); (try clear hk); (try clear hi); (try clear ho0); (try clear ho1)) | ((with_reducible refine gate_callee (f := 41) rfl ?_); refine goesL_ (some 43) rfl rfl Try.func41 (by kernel_rfl) rfl #[.slice Ao10 t336.length co10] rfl (by (try simp only [List.map_toArray, List.map_cons, List.map_nil]); first | done | rfl | (simp only [List.length_drop, List.length_take]; rfl)) ?_; (with_reducible refine (spec_StandardFactors.calls k _ _ t336 t346 t347 t348 _ ?side1 ?side2 A7.out).mono ?_); (case side1 => repeat (first | exact (Kd.R_reads' HO338.out).2.2 | (with_reducible refine Kd.C_alloc ?_ _) | (with_reducible refine Kd.C_drewN ?_ _) | (with_reducible refine Kd.C_drew ?_))); (case side2 => exact (Kd.R_reads' HO338.out).2.1); rintro e w12 ⟨v349, v351, rfl, ho0, ho1, hb⟩; refine ⟨_, rfl, ?_⟩; have n0_ := Aside0.mk (Kd.R_mono (Kd.R_told (Kd.R_told (Kd.R_old (by (with_reducible repeat (first | apply Kd.R_alloc | apply Kd.R_drewN | apply Kd.R_drew)); (first | exact HO338.out | (have hz_ := HO338.out; (try simp only [ob_] at hz_); (try simp only [ob_]); exact hz_))) hb) (Kd.R_base ho0)) (Kd.R_base ho1)) (fun _ h_ => h_.1)); have n1_ := Aside0.mk (Kd.R_mono (Kd.R_told (Kd.R_told (Kd.R_old (by (with_reducible repeat (first | apply Kd.R_alloc | apply Kd.R_drewN | apply Kd.R_drew)); (first | exact HO343.out | (have hz_ := HO343.out; (try simp only [ob_] at hz_); (try simp only [ob_]); exact hz_))) hb) (Kd.R_base ho0)) (Kd.R_base ho1)) (fun _ h_ => h_.1)); have n2_ := Aside0.mk (Kd.R_mono (Kd.R_told (Kd.R_told (Kd.R_old (by (with_reducible repeat (first | apply Kd.R_alloc | apply Kd.R_drewN | apply Kd.R_drew)); (first | exact HO345.out | (have hz_ := HO345.out; (try simp only [ob_] at hz_); (try simp only [ob_]); exact hz_))) hb) (Kd.R_base ho0)) (Kd.R_base ho1)) (fun _ h_ => h_.1)); have n3_ := Aside0.mk (Kd.R_lower (Kd.R_new' (Kd.R_new' (Kd.R_new' ho0 (Kd.R_lt (by (with_reducible repeat (first | apply Kd.R_alloc | apply Kd.R_drewN | apply Kd.R_drew)); (first | exact HO338.out | (have hz_ := HO338.out; (try simp only [ob_] at hz_); (try simp only [ob_]); exact hz_))))) (Kd.R_lt (by (with_reducible repeat (first | apply Kd.R_alloc | apply Kd.R_drewN | apply Kd.R_drew)); (first | exact HO343.out | (have hz_ := HO343.out; (try simp only [ob_] at hz_); (try simp only [ob_]); exact hz_))))) (Kd.R_lt (by (with_reducible repeat (first | apply Kd.R_alloc | apply Kd.R_drewN | apply Kd.R_drew)); (first | exact HO345.out | (have hz_ := HO345.out; (try simp only [ob_] at hz_); (try simp only [ob_]); exact hz_))))) (below_size (by repeat (first | (with_reducible first | exact HB.out | apply below_alloc | apply pw_below_drewN | apply below_drew1) | exact HB.out)))); have n4_ := Aside0.mk (Kd.R_lower (Kd.R_new' (Kd.R_new' (Kd.R_new' ho1 (Kd.R_lt (by (with_reducible repeat (first | apply Kd.R_alloc | apply Kd.R_drewN | apply Kd.R_drew)); (first | exact HO338.out | (have hz_ := HO338.out; (try simp only [ob_] at hz_); (try simp only [ob_]); exact hz_))))) (Kd.R_lt (by (with_reducible repeat (first | apply Kd.R_alloc | apply Kd.R_drewN | apply Kd.R_drew)); (first | exact HO343.out | (have hz_ := HO343.out; (try simp only [ob_] at hz_); (try simp only [ob_]); exact hz_))))) (Kd.R_lt (by (with_reducible repeat (first | apply Kd.R_alloc | apply Kd.R_drewN | apply Kd.R_drew)); (first | exact HO345.out | (have hz_ := HO345.out; (try simp only [ob_] at hz_); (try simp only [ob_]); exact hz_))))) (below_size (by repeat (first | (with_reducible first | exact HB.out | apply below_alloc | apply pw_below_drewN | apply below_drew1) | exact HB.out)))); have n5_ := Aside0.mk (below_step (by repeat (first | (with_reducible first | exact HB.out | apply below_alloc | apply pw_below_drewN | apply below_drew1) | exact HB.out)) hb); clear HO338; clear HO343; clear HO345; clear HB; have HO338 := n0_; have HO343 := n1_; have HO345 := n2_; have HO350 := n3_; have HO352 := n4_; have HB := n5_; clear n0_ n1_ n2_ n3_ n4_ n5_; (try clear hb); (try clear hb2); (try clear hk); (try clear hi); (try clear ho0); (try clear ho1)))
    (try simp only [Act.put, List.setIfInBounds_toArray, List.set_cons_zero, List.set_cons_succ])
    go_cut [61] (fun v61 wc => ∃ (kq : Nat) (x61_7 : Bool), v61 = .bool x61_7 ∧ Aside0 (laws_FnStandardFactors.j0 kq t336 t339 t340 t341 x61_7 = some r) ∧ Aside0 (kq ≤ k) ∧ Aside0 (Kd.R (Kd.int .i64) 3 wc w.heap.size (fun k_ => some k_ ≠ (v342 : Value).ownBlock ∧ some k_ ≠ (v344 : Value).ownBlock) (.slice Ao10 t336.length co10) t336) ∧ Aside0 (Kd.R (Kd.int .i64) 3 wc w.heap.size (fun k_ => some k_ ≠ ((.slice Ao10 t336.length co10) : Value).ownBlock ∧ some k_ ≠ (v344 : Value).ownBlock) v342 t339) ∧ Aside0 (Kd.R (Kd.int .i64) 3 wc w.heap.size (fun k_ => some k_ ≠ ((.slice Ao10 t336.length co10) : Value).ownBlock ∧ some k_ ≠ (v342 : Value).ownBlock) v344 t340) ∧ Aside0 (Below w.heap.size w wc))
    case first =>
      have H := HC8.out
      clear HC8
      by_cases c13 : (t341 != t348) = true
      · as_aux_lemma =>
          rw [if_pos c13] at H
          have c13b0 : (t341 != t348) = true := c13
          (try (have c13b1 : decide (t341 = t348) = false := by simpa using c13))
          (try (have c13b2 : (t341 == t348) = false := by simpa using c13))
          (try (have c13b3 : ¬ (t341 = t348) := by simpa using c13))
          clear c13
          (first | rw [c13b0] | (simp only [i64_w, i32_w]; rw [c13b0]) | skip)
          have H' := Aside0.mk H
          clear H
          go_wp2
          go_meet
          case rel => exact ⟨_, (true), (by first | rfl | (simp; done) | (simp [*]; done)), H', ⟨by first | omega | exact Nat.le_refl _⟩, ⟨by (with_reducible repeat (first | apply Kd.R_alloc | apply Kd.R_drewN | apply Kd.R_drew)); (first | exact Kd.R_mono HO338.out (fun _ hk => ⟨hk.1.1.1.2, hk.1.1.2⟩) | (have hz_ := Kd.R_mono HO338.out (fun _ hk => ⟨hk.1.1.1.2, hk.1.1.2⟩); (try simp only [ob_] at hz_); (try simp only [ob_]); exact hz_))⟩, ⟨by (with_reducible repeat (first | apply Kd.R_alloc | apply Kd.R_drewN | apply Kd.R_drew)); (first | exact Kd.R_mono HO343.out (fun _ hk => ⟨hk.1.1.2, hk.1.1.1⟩) | (have hz_ := Kd.R_mono HO343.out (fun _ hk => ⟨hk.1.1.2, hk.1.1.1⟩); (try simp only [ob_] at hz_); (try simp only [ob_]); exact hz_))⟩, ⟨by (with_reducible repeat (first | apply Kd.R_alloc | apply Kd.R_drewN | apply Kd.R_drew)); (first | exact Kd.R_mono HO345.out (fun _ hk => ⟨hk.1.1.2, hk.1.1.1⟩) | (have hz_ := Kd.R_mono HO345.out (fun _ hk => ⟨hk.1.1.2, hk.1.1.1⟩); (try simp only [ob_] at hz_); (try simp only [ob_]); exact hz_))⟩, ⟨by repeat (first | (with_reducible first | exact HB.out | apply below_alloc | apply pw_below_drewN | apply below_drew1) | exact HB.out)⟩⟩
      · rw [if_neg c13] at H
        have c13b0 : (t341 != t348) = false := by simpa using c13
        (try (have c13b1 : decide (t341 = t348) = true := by simpa using c13))
        (try (have c13b2 : (t341 == t348) = true := by simpa using c13))
        clear c13
        (first | rw [c13b0] | (simp only [i64_w, i32_w]; rw [c13b0]) | skip)
        replace H := Option.bind_eq_some_iff.mp H
        obtain ⟨t353, A140, H⟩ := H
        replace H : (if t353 = true then ((laws_tSame.f k t340 t347).bind fun t354 => (laws_FnStandardFactors.j0 k t336 t339 t340 t341 (!t354))) else (laws_FnStandardFactors.j0 k t336 t339 t340 t341 true)) = some r := H
        have A14 := Aside0.mk A140
        clear A140
        by_cases c15 : t353 = true
        · as_aux_lemma =>
            subst c15
            have H1 : ((laws_tSame.f k t340 t347).bind fun t354 => (laws_FnStandardFactors.j0 k t336 t339 t340 t341 (!t354))) = some r := by rw [if_pos rfl] at H; exact H
            clear H
            have H := H1
            clear H1
            replace H := Option.bind_eq_some_iff.mp H
            obtain ⟨t354, A160, H⟩ := H
            replace H : (laws_FnStandardFactors.j0 k t336 t339 t340 t341 (!t354)) = some r := H
            have A16 := Aside0.mk A160
            clear A160
            have H' := Aside0.mk H
            clear H
            obtain ⟨Ao17, co17, eo17⟩ := Kd.R_slice HO343.out
            subst eo17
            obtain ⟨Ao18, co18, eo18⟩ := Kd.R_slice HO350.out
            subst eo18
            go_wp2_with (first | (go_at_call 22; (with_reducible refine (laws_tSame.calls k _ _ t339 _ _ t346 true _ ?side1 ?side2 ?side3 ?side4 A14.out).mono ?_); (case side1 => repeat (first | exact (Kd.R_reads' HO343.out).2.2 | (with_reducible refine Kd.C_alloc ?_ _) | (with_reducible refine Kd.C_drewN ?_ _) | (with_reducible refine Kd.C_drew ?_))); (case side2 => exact (Kd.R_reads' HO343.out).2.1); (case side3 => repeat (first | exact (Kd.R_reads' HO350.out).2.2 | (with_reducible refine Kd.C_alloc ?_ _) | (with_reducible refine Kd.C_drewN ?_ _) | (with_reducible refine Kd.C_drew ?_))); (case side4 => exact (Kd.R_reads' HO350.out).2.1); rintro e w' ⟨rfl, ⟨nd, rfl⟩⟩; obtain ⟨Ao19, co19, eo19⟩ := Kd.R_slice HO345.out; subst eo19; obtain ⟨Ao20, co20, eo20⟩ := Kd.R_slice HO352.out; subst eo20) | (go_at_call 22; (with_reducible refine (laws_tSame.calls k _ _ t340 _ _ t347 t354 _ ?side1 ?side2 ?side3 ?side4 A16.out).mono ?_); (case side1 => repeat (first | exact (Kd.R_reads' HO345.out).2.2 | (with_reducible refine Kd.C_alloc ?_ _) | (with_reducible refine Kd.C_drewN ?_ _) | (with_reducible refine Kd.C_drew ?_))); (case side2 => exact (Kd.R_reads' HO345.out).2.1); (case side3 => repeat (first | exact (Kd.R_reads' HO352.out).2.2 | (with_reducible refine Kd.C_alloc ?_ _) | (with_reducible refine Kd.C_drewN ?_ _) | (with_reducible refine Kd.C_drew ?_))); (case side4 => exact (Kd.R_reads' HO352.out).2.1); rintro e w' ⟨rfl, ⟨nd, rfl⟩⟩))
            go_meet
            case rel => exact ⟨_, (!t354), (by first | rfl | (simp; done) | (simp [*]; done)), H', ⟨by first | omega | exact Nat.le_refl _⟩, ⟨by (with_reducible repeat (first | apply Kd.R_alloc | apply Kd.R_drewN | apply Kd.R_drew)); (first | exact Kd.R_mono HO338.out (fun _ hk => ⟨hk.1.1.1.2, hk.1.1.2⟩) | (have hz_ := Kd.R_mono HO338.out (fun _ hk => ⟨hk.1.1.1.2, hk.1.1.2⟩); (try simp only [ob_] at hz_); (try simp only [ob_]); exact hz_))⟩, ⟨by (with_reducible repeat (first | apply Kd.R_alloc | apply Kd.R_drewN | apply Kd.R_drew)); (first | exact Kd.R_mono HO343.out (fun _ hk => ⟨hk.1.1.2, hk.1.1.1⟩) | (have hz_ := Kd.R_mono HO343.out (fun _ hk => ⟨hk.1.1.2, hk.1.1.1⟩); (try simp only [ob_] at hz_); (try simp only [ob_]); exact hz_))⟩, ⟨by (with_reducible repeat (first | apply Kd.R_alloc | apply Kd.R_drewN | apply Kd.R_drew)); (first | exact Kd.R_mono HO345.out (fun _ hk => ⟨hk.1.1.2, hk.1.1.1⟩) | (have hz_ := Kd.R_mono HO345.out (fun _ hk => ⟨hk.1.1.2, hk.1.1.1⟩); (try simp only [ob_] at hz_); (try simp only [ob_]); exact hz_))⟩, ⟨by repeat (first | (with_reducible first | exact HB.out | apply below_alloc | apply pw_below_drewN | apply below_drew1) | exact HB.out)⟩⟩
        · as_aux_lemma =>
            replace c15 := Bool.eq_false_iff.mpr c15
            subst c15
            have H1 : (laws_FnStandardFactors.j0 k t336 t339 t340 t341 true) = some r := by rw [if_neg (show ¬ (false = true) by decide)] at H; exact H
            clear H
            have H := H1
            clear H1
            have H' := Aside0.mk H
            clear H
            obtain ⟨Ao21, co21, eo21⟩ := Kd.R_slice HO343.out
            subst eo21
            obtain ⟨Ao22, co22, eo22⟩ := Kd.R_slice HO350.out
            subst eo22
            go_wp2_with (first | (go_at_call 22; (with_reducible refine (laws_tSame.calls k _ _ t339 _ _ t346 false _ ?side1 ?side2 ?side3 ?side4 A14.out).mono ?_); (case side1 => repeat (first | exact (Kd.R_reads' HO343.out).2.2 | (with_reducible refine Kd.C_alloc ?_ _) | (with_reducible refine Kd.C_drewN ?_ _) | (with_reducible refine Kd.C_drew ?_))); (case side2 => exact (Kd.R_reads' HO343.out).2.1); (case side3 => repeat (first | exact (Kd.R_reads' HO350.out).2.2 | (with_reducible refine Kd.C_alloc ?_ _) | (with_reducible refine Kd.C_drewN ?_ _) | (with_reducible refine Kd.C_drew ?_))); (case side4 => exact (Kd.R_reads' HO350.out).2.1); rintro e w' ⟨rfl, ⟨nd, rfl⟩⟩))
            go_meet
            case rel => exact ⟨_, (true), (by first | rfl | (simp; done) | (simp [*]; done)), H', ⟨by first | omega | exact Nat.le_refl _⟩, ⟨by (with_reducible repeat (first | apply Kd.R_alloc | apply Kd.R_drewN | apply Kd.R_drew)); (first | exact Kd.R_mono HO338.out (fun _ hk => ⟨hk.1.1.1.2, hk.1.1.2⟩) | (have hz_ := Kd.R_mono HO338.out (fun _ hk => ⟨hk.1.1.1.2, hk.1.1.2⟩); (try simp only [ob_] at hz_); (try simp only [ob_]); exact hz_))⟩, ⟨by (with_reducible repeat (first | apply Kd.R_alloc | apply Kd.R_drewN | apply Kd.R_drew)); (first | exact Kd.R_mono HO343.out (fun _ hk => ⟨hk.1.1.2, hk.1.1.1⟩) | (have hz_ := Kd.R_mono HO343.out (fun _ hk => ⟨hk.1.1.2, hk.1.1.1⟩); (try simp only [ob_] at hz_); (try simp only [ob_]); exact hz_))⟩, ⟨by (with_reducible repeat (first | apply Kd.R_alloc | apply Kd.R_drewN | apply Kd.R_drew)); (first | exact Kd.R_mono HO345.out (fun _ hk => ⟨hk.1.1.2, hk.1.1.1⟩) | (have hz_ := Kd.R_mono HO345.out (fun _ hk => ⟨hk.1.1.2, hk.1.1.1⟩); (try simp only [ob_] at hz_); (try simp only [ob_]); exact hz_))⟩, ⟨by repeat (first | (with_reducible first | exact HB.out | apply below_alloc | apply pw_below_drewN | apply below_drew1) | exact HB.out)⟩⟩
    case rest =>
      clear HC8
      try clear c1
      try clear p2
      try clear c3
      try clear c4
      try clear c10
      try clear c13
      try clear c13b0
      try clear c13b1
      try clear c13b2
      try clear c15
      obtain ⟨kq, x61_7, rfl, HA, HJ7, HO_5, HO_6, HO_7, HB⟩ := hcut
      cases kq with
      | zero => exact absurd HA.out (by simp [laws_FnStandardFactors.j0])
      | succ kj7 =>
        have H := HA.out
        clear HA
        simp only [laws_FnStandardFactors.j0] at H
        by_cases c23 : x61_7 = true
        · as_aux_lemma =>
            subst c23
            have H1 : (some false) = some r := by rw [if_pos rfl] at H; exact H
            clear H
            have H := H1
            clear H1
            obtain rfl := Option.some.inj H
            go_wp2
            go_ret
            exact ⟨by first | rfl | (simp [errW_none, errW_some] <;> rfl) | (simp [*, errW_none, errW_some] <;> rfl), by repeat (first | (with_reducible first | exact HB.out | apply below_alloc | apply pw_below_drewN | apply below_drew1) | exact HB.out)⟩
        · replace c23 := Bool.eq_false_iff.mpr c23
          subst c23
          have H1 : ((impl_BracketText.f kj7 t336).bind fun bt355 => ((spec_BracketText.f kj7 t336).bind fun bt357 => ((impl_IsLyndon.f kj7 t336).bind fun bt359 => (if (bt355.2 != bt357.2) = true then (laws_FnStandardFactors.j1 kj7 t336 t339 t340 t341 bt355.1 bt355.2 true) else (if bt355.1.toList = bt357.1.toList then (if bt359.2 = true then (if (bt355.2 != bt359.1) = true then (laws_FnStandardFactors.j1 kj7 t336 t339 t340 t341 bt355.1 bt355.2 true) else (if bt355.2 = true then (laws_FnStandardFactors.j1 kj7 t336 t339 t340 t341 bt355.1 bt355.2 (t341 != (decide ((t336.length : Int) > 1)))) else (laws_FnStandardFactors.j1 kj7 t336 t339 t340 t341 bt355.1 bt355.2 (t341 != false)))) else (if (bt355.2 != false) = true then (laws_FnStandardFactors.j1 kj7 t336 t339 t340 t341 bt355.1 bt355.2 true) else (if bt355.2 = true then (laws_FnStandardFactors.j1 kj7 t336 t339 t340 t341 bt355.1 bt355.2 (t341 != (decide ((t336.length : Int) > 1)))) else (laws_FnStandardFactors.j1 kj7 t336 t339 t340 t341 bt355.1 bt355.2 (t341 != false))))) else (laws_FnStandardFactors.j1 kj7 t336 t339 t340 t341 bt355.1 bt355.2 true)))))) = some r := by rw [if_neg (show ¬ (false = true) by decide)] at H; exact H
          clear H
          have H := H1
          clear H1
          replace H := Option.bind_eq_some_iff.mp H
          obtain ⟨⟨t355, t356⟩, A240, H⟩ := H
          replace H : ((spec_BracketText.f kj7 t336).bind fun bt357 => ((impl_IsLyndon.f kj7 t336).bind fun bt359 => (if (t356 != bt357.2) = true then (laws_FnStandardFactors.j1 kj7 t336 t339 t340 t341 t355 t356 true) else (if t355.toList = bt357.1.toList then (if bt359.2 = true then (if (t356 != bt359.1) = true then (laws_FnStandardFactors.j1 kj7 t336 t339 t340 t341 t355 t356 true) else (if t356 = true then (laws_FnStandardFactors.j1 kj7 t336 t339 t340 t341 t355 t356 (t341 != (decide ((t336.length : Int) > 1)))) else (laws_FnStandardFactors.j1 kj7 t336 t339 t340 t341 t355 t356 (t341 != false)))) else (if (t356 != false) = true then (laws_FnStandardFactors.j1 kj7 t336 t339 t340 t341 t355 t356 true) else (if t356 = true then (laws_FnStandardFactors.j1 kj7 t336 t339 t340 t341 t355 t356 (t341 != (decide ((t336.length : Int) > 1)))) else (laws_FnStandardFactors.j1 kj7 t336 t339 t340 t341 t355 t356 (t341 != false))))) else (laws_FnStandardFactors.j1 kj7 t336 t339 t340 t341 t355 t356 true))))) = some r := H
          have A24 := Aside0.mk A240
          clear A240
          replace H := Option.bind_eq_some_iff.mp H
          obtain ⟨⟨t357, t358⟩, A250, H⟩ := H
          replace H : ((impl_IsLyndon.f kj7 t336).bind fun bt359 => (if (t356 != t358) = true then (laws_FnStandardFactors.j1 kj7 t336 t339 t340 t341 t355 t356 true) else (if t355.toList = t357.toList then (if bt359.2 = true then (if (t356 != bt359.1) = true then (laws_FnStandardFactors.j1 kj7 t336 t339 t340 t341 t355 t356 true) else (if t356 = true then (laws_FnStandardFactors.j1 kj7 t336 t339 t340 t341 t355 t356 (t341 != (decide ((t336.length : Int) > 1)))) else (laws_FnStandardFactors.j1 kj7 t336 t339 t340 t341 t355 t356 (t341 != false)))) else (if (t356 != false) = true then (laws_FnStandardFactors.j1 kj7 t336 t339 t340 t341 t355 t356 true) else (if t356 = true then (laws_FnStandardFactors.j1 kj7 t336 t339 t340 t341 t355 t356 (t341 != (decide ((t336.length : Int) > 1)))) else (laws_FnStandardFactors.j1 kj7 t336 t339 t340 t341 t355 t356 (t341 != false))))) else (laws_FnStandardFactors.j1 kj7 t336 t339 t340 t341 t355 t356 true)))) = some r := H
          have A25 := Aside0.mk A250
          clear A250
          replace H := Option.bind_eq_some_iff.mp H
          obtain ⟨⟨t359, t360⟩, A260, H⟩ := H
          replace H : (if (t356 != t358) = true then (laws_FnStandardFactors.j1 kj7 t336 t339 t340 t341 t355 t356 true) else (if t355.toList = t357.toList then (if t360 = true then (if (t356 != t359) = true then (laws_FnStandardFactors.j1 kj7 t336 t339 t340 t341 t355 t356 true) else (if t356 = true then (laws_FnStandardFactors.j1 kj7 t336 t339 t340 t341 t355 t356 (t341 != (decide ((t336.length : Int) > 1)))) else (laws_FnStandardFactors.j1 kj7 t336 t339 t340 t341 t355 t356 (t341 != false)))) else (if (t356 != false) = true then (laws_FnStandardFactors.j1 kj7 t336 t339 t340 t341 t355 t356 true) else (if t356 = true then (laws_FnStandardFactors.j1 kj7 t336 t339 t340 t341 t355 t356 (t341 != (decide ((t336.length : Int) > 1)))) else (laws_FnStandardFactors.j1 kj7 t336 t339 t340 t341 t355 t356 (t341 != false))))) else (laws_FnStandardFactors.j1 kj7 t336 t339 t340 t341 t355 t356 true))) = some r := H
          have A26 := Aside0.mk A260
          clear A260
          have HC27 := Aside0.mk H
          clear H
          go_upto_region 11 with (first | ((with_reducible refine gate_callee (f := 42) rfl ?_); refine goesL_ (some 64) rfl rfl Try.func42 (by kernel_rfl) rfl #[.slice Ao10 t336.length co10] rfl (by (try simp only [List.map_toArray, List.map_cons, List.map_nil]); first | done | rfl | (simp only [List.length_drop, List.length_take]; rfl)) ?_; (with_reducible refine (impl_BracketText.calls kj7 _ _ t336 t355 t356 _ ?side1 ?side2 A24.out).mono ?_); (case side1 => repeat (first | exact (Kd.R_reads' HO_5.out).2.2 | (with_reducible refine Kd.C_alloc ?_ _) | (with_reducible refine Kd.C_drewN ?_ _) | (with_reducible refine Kd.C_drew ?_))); (case side2 => exact (Kd.R_reads' HO_5.out).2.1); rintro e w28 ⟨rfl, hb⟩; refine ⟨_, rfl, ?_⟩; have n0_ := Aside0.mk (Kd.R_below (by (with_reducible repeat (first | apply Kd.R_alloc | apply Kd.R_drewN | apply Kd.R_drew)); (first | exact HO_5.out | (have hz_ := HO_5.out; (try simp only [ob_] at hz_); (try simp only [ob_]); exact hz_))) hb); have n1_ := Aside0.mk (Kd.R_below (by (with_reducible repeat (first | apply Kd.R_alloc | apply Kd.R_drewN | apply Kd.R_drew)); (first | exact HO_6.out | (have hz_ := HO_6.out; (try simp only [ob_] at hz_); (try simp only [ob_]); exact hz_))) hb); have n2_ := Aside0.mk (Kd.R_below (by (with_reducible repeat (first | apply Kd.R_alloc | apply Kd.R_drewN | apply Kd.R_drew)); (first | exact HO_7.out | (have hz_ := HO_7.out; (try simp only [ob_] at hz_); (try simp only [ob_]); exact hz_))) hb); have n3_ := Aside0.mk (below_step (by repeat (first | (with_reducible first | exact HB.out | apply below_alloc | apply pw_below_drewN | apply below_drew1) | exact HB.out)) hb); clear HO_5; clear HO_6; clear HO_7; clear HB; have HO_5 := n0_; have HO_6 := n1_; have HO_7 := n2_; have HB := n3_; clear n0_ n1_ n2_ n3_; (try clear hb); (try clear hb2); (try clear hk); (try clear hi)) | ((with_reducible refine gate_callee (f := 43) rfl ?_); refine goesL_ (some 69) rfl rfl Try.func43 (by kernel_rfl) rfl #[.slice Ao10 t336.length co10] rfl (by (try simp only [List.map_toArray, List.map_cons, List.map_nil]); first | done | rfl | (simp only [List.length_drop, List.length_take]; rfl)) ?_; (with_reducible refine (spec_BracketText.calls kj7 _ _ t336 t357 t358 _ ?side1 ?side2 A25.out).mono ?_); (case side1 => repeat (first | exact (Kd.R_reads' HO_5.out).2.2 | (with_reducible refine Kd.C_alloc ?_ _) | (with_reducible refine Kd.C_drewN ?_ _) | (with_reducible refine Kd.C_drew ?_))); (case side2 => exact (Kd.R_reads' HO_5.out).2.1); rintro e w29 ⟨rfl, hb⟩; refine ⟨_, rfl, ?_⟩; have n0_ := Aside0.mk (Kd.R_below (by (with_reducible repeat (first | apply Kd.R_alloc | apply Kd.R_drewN | apply Kd.R_drew)); (first | exact HO_5.out | (have hz_ := HO_5.out; (try simp only [ob_] at hz_); (try simp only [ob_]); exact hz_))) hb); have n1_ := Aside0.mk (Kd.R_below (by (with_reducible repeat (first | apply Kd.R_alloc | apply Kd.R_drewN | apply Kd.R_drew)); (first | exact HO_6.out | (have hz_ := HO_6.out; (try simp only [ob_] at hz_); (try simp only [ob_]); exact hz_))) hb); have n2_ := Aside0.mk (Kd.R_below (by (with_reducible repeat (first | apply Kd.R_alloc | apply Kd.R_drewN | apply Kd.R_drew)); (first | exact HO_7.out | (have hz_ := HO_7.out; (try simp only [ob_] at hz_); (try simp only [ob_]); exact hz_))) hb); have n3_ := Aside0.mk (below_step (by repeat (first | (with_reducible first | exact HB.out | apply below_alloc | apply pw_below_drewN | apply below_drew1) | exact HB.out)) hb); clear HO_5; clear HO_6; clear HO_7; clear HB; have HO_5 := n0_; have HO_6 := n1_; have HO_7 := n2_; have HB := n3_; clear n0_ n1_ n2_ n3_; (try clear hb); (try clear hb2); (try clear hk); (try clear hi)) | ((with_reducible refine gate_callee (f := 20) rfl ?_); refine goesL_ (some 74) rfl rfl Try.func20 (by kernel_rfl) rfl #[.slice Ao10 t336.length co10] rfl (by (try simp only [List.map_toArray, List.map_cons, List.map_nil]); first | done | rfl | (simp only [List.length_drop, List.length_take]; rfl)) ?_; (with_reducible refine (impl_IsLyndon.calls kj7 _ _ t336 t359 t360 _ ?side1 ?side2 A26.out).mono ?_); (case side1 => repeat (first | exact (Kd.R_reads' HO_5.out).2.2 | (with_reducible refine Kd.C_alloc ?_ _) | (with_reducible refine Kd.C_drewN ?_ _) | (with_reducible refine Kd.C_drew ?_))); (case side2 => exact (Kd.R_reads' HO_5.out).2.1); rintro e w30 ⟨rfl, hb⟩; refine ⟨_, rfl, ?_⟩; have n0_ := Aside0.mk (Kd.R_below (by (with_reducible repeat (first | apply Kd.R_alloc | apply Kd.R_drewN | apply Kd.R_drew)); (first | exact HO_5.out | (have hz_ := HO_5.out; (try simp only [ob_] at hz_); (try simp only [ob_]); exact hz_))) hb); have n1_ := Aside0.mk (Kd.R_below (by (with_reducible repeat (first | apply Kd.R_alloc | apply Kd.R_drewN | apply Kd.R_drew)); (first | exact HO_6.out | (have hz_ := HO_6.out; (try simp only [ob_] at hz_); (try simp only [ob_]); exact hz_))) hb); have n2_ := Aside0.mk (Kd.R_below (by (with_reducible repeat (first | apply Kd.R_alloc | apply Kd.R_drewN | apply Kd.R_drew)); (first | exact HO_7.out | (have hz_ := HO_7.out; (try simp only [ob_] at hz_); (try simp only [ob_]); exact hz_))) hb); have n3_ := Aside0.mk (below_step (by repeat (first | (with_reducible first | exact HB.out | apply below_alloc | apply pw_below_drewN | apply below_drew1) | exact HB.out)) hb); clear HO_5; clear HO_6; clear HO_7; clear HB; have HO_5 := n0_; have HO_6 := n1_; have HO_7 := n2_; have HB := n3_; clear n0_ n1_ n2_ n3_; (try clear hb); (try clear hb2); (try clear hk); (try clear hi)))
          (try simp only [Act.put, List.setIfInBounds_toArray, List.set_cons_zero, List.set_cons_succ])
          go_cut [102] (fun v102 wc => ∃ (kq : Nat) (x102_26 : Bool), v102 = .bool x102_26 ∧ Aside0 (laws_FnStandardFactors.j1 kq t336 t339 t340 t341 t355 t356 x102_26 = some r) ∧ Aside0 (kq ≤ kj7) ∧ Aside0 (Kd.R (Kd.int .i64) 3 wc w.heap.size (fun k_ => some k_ ≠ (v342 : Value).ownBlock ∧ some k_ ≠ (v344 : Value).ownBlock) (.slice Ao10 t336.length co10) t336) ∧ Aside0 (Kd.R (Kd.int .i64) 3 wc w.heap.size (fun k_ => some k_ ≠ ((.slice Ao10 t336.length co10) : Value).ownBlock ∧ some k_ ≠ (v344 : Value).ownBlock) v342 t339) ∧ Aside0 (Kd.R (Kd.int .i64) 3 wc w.heap.size (fun k_ => some k_ ≠ ((.slice Ao10 t336.length co10) : Value).ownBlock ∧ some k_ ≠ (v342 : Value).ownBlock) v344 t340) ∧ Aside0 (Below w.heap.size w wc))
          case first =>
            have H := HC27.out
            clear HC27
            by_cases c31 : (t356 != t358) = true
            · as_aux_lemma =>
                rw [if_pos c31] at H
                have c31b0 : (t356 != t358) = true := c31
                (try (have c31b1 : decide (t356 = t358) = false := by simpa using c31))
                (try (have c31b2 : (t356 == t358) = false := by simpa using c31))
                (try (have c31b3 : ¬ (t356 = t358) := by simpa using c31))
                clear c31
                (first | rw [c31b0] | (simp only [i64_w, i32_w]; rw [c31b0]) | skip)
                have H' := Aside0.mk H
                clear H
                go_wp2
                go_meet
                case rel => exact ⟨_, (true), (by first | rfl | (simp; done) | (simp [*]; done)), H', ⟨by have := HJ7.out; first | omega | exact Nat.le_refl _⟩, ⟨by (with_reducible repeat (first | apply Kd.R_alloc | apply Kd.R_drewN | apply Kd.R_drew)); (first | exact HO_5.out | (have hz_ := HO_5.out; (try simp only [ob_] at hz_); (try simp only [ob_]); exact hz_))⟩, ⟨by (with_reducible repeat (first | apply Kd.R_alloc | apply Kd.R_drewN | apply Kd.R_drew)); (first | exact HO_6.out | (have hz_ := HO_6.out; (try simp only [ob_] at hz_); (try simp only [ob_]); exact hz_))⟩, ⟨by (with_reducible repeat (first | apply Kd.R_alloc | apply Kd.R_drewN | apply Kd.R_drew)); (first | exact HO_7.out | (have hz_ := HO_7.out; (try simp only [ob_] at hz_); (try simp only [ob_]); exact hz_))⟩, ⟨by repeat (first | (with_reducible first | exact HB.out | apply below_alloc | apply pw_below_drewN | apply below_drew1) | exact HB.out)⟩⟩
            · rw [if_neg c31] at H
              have c31b0 : (t356 != t358) = false := by simpa using c31
              (try (have c31b1 : decide (t356 = t358) = true := by simpa using c31))
              (try (have c31b2 : (t356 == t358) = true := by simpa using c31))
              clear c31
              (first | rw [c31b0] | (simp only [i64_w, i32_w]; rw [c31b0]) | skip)
              by_cases c32 : t355.toList = t357.toList
              · rw [if_pos c32] at H
                have c32b0 : (t355.toList == t357.toList) = true := beq_iff_eq.mpr c32
                have c32b1 : (t355.toList != t357.toList) = false := bne_eq_false_iff_eq.mpr c32
                clear c32
                by_cases c33 : t360 = true
                · subst c33
                  have H1 : (if (t356 != t359) = true then (laws_FnStandardFactors.j1 kj7 t336 t339 t340 t341 t355 t356 true) else (if t356 = true then (laws_FnStandardFactors.j1 kj7 t336 t339 t340 t341 t355 t356 (t341 != (decide ((t336.length : Int) > 1)))) else (laws_FnStandardFactors.j1 kj7 t336 t339 t340 t341 t355 t356 (t341 != false)))) = some r := by rw [if_pos rfl] at H; exact H
                  clear H
                  have H := H1
                  clear H1
                  by_cases c34 : (t356 != t359) = true
                  · as_aux_lemma =>
                      rw [if_pos c34] at H
                      have c34b0 : (t356 != t359) = true := c34
                      (try (have c34b1 : decide (t356 = t359) = false := by simpa using c34))
                      (try (have c34b2 : (t356 == t359) = false := by simpa using c34))
                      (try (have c34b3 : ¬ (t356 = t359) := by simpa using c34))
                      clear c34
                      have H' := Aside0.mk H
                      clear H
                      go_wp2
                      go_meet
                      case rel => exact ⟨_, (true), (by first | rfl | (simp; done) | (simp [*]; done)), H', ⟨by have := HJ7.out; first | omega | exact Nat.le_refl _⟩, ⟨by (with_reducible repeat (first | apply Kd.R_alloc | apply Kd.R_drewN | apply Kd.R_drew)); (first | exact HO_5.out | (have hz_ := HO_5.out; (try simp only [ob_] at hz_); (try simp only [ob_]); exact hz_))⟩, ⟨by (with_reducible repeat (first | apply Kd.R_alloc | apply Kd.R_drewN | apply Kd.R_drew)); (first | exact HO_6.out | (have hz_ := HO_6.out; (try simp only [ob_] at hz_); (try simp only [ob_]); exact hz_))⟩, ⟨by (with_reducible repeat (first | apply Kd.R_alloc | apply Kd.R_drewN | apply Kd.R_drew)); (first | exact HO_7.out | (have hz_ := HO_7.out; (try simp only [ob_] at hz_); (try simp only [ob_]); exact hz_))⟩, ⟨by repeat (first | (with_reducible first | exact HB.out | apply below_alloc | apply pw_below_drewN | apply below_drew1) | exact HB.out)⟩⟩
                  · rw [if_neg c34] at H
                    have c34b0 : (t356 != t359) = false := by simpa using c34
                    (try (have c34b1 : decide (t356 = t359) = true := by simpa using c34))
                    (try (have c34b2 : (t356 == t359) = true := by simpa using c34))
                    clear c34
                    by_cases c35 : t356 = true
                    · as_aux_lemma =>
                        subst c35
                        have H1 : (laws_FnStandardFactors.j1 kj7 t336 t339 t340 t341 t355 true (t341 != (decide ((t336.length : Int) > 1)))) = some r := by rw [if_pos rfl] at H; exact H
                        clear H
                        have H := H1
                        clear H1
                        have H' := Aside0.mk H
                        clear H
                        go_wp2
                        go_meet
                        case rel => exact ⟨_, ((t341 != (decide ((t336.length : Int) > 1)))), (by first | rfl | (simp; done) | (simp [*]; done)), H', ⟨by have := HJ7.out; first | omega | exact Nat.le_refl _⟩, ⟨by (with_reducible repeat (first | apply Kd.R_alloc | apply Kd.R_drewN | apply Kd.R_drew)); (first | exact HO_5.out | (have hz_ := HO_5.out; (try simp only [ob_] at hz_); (try simp only [ob_]); exact hz_))⟩, ⟨by (with_reducible repeat (first | apply Kd.R_alloc | apply Kd.R_drewN | apply Kd.R_drew)); (first | exact HO_6.out | (have hz_ := HO_6.out; (try simp only [ob_] at hz_); (try simp only [ob_]); exact hz_))⟩, ⟨by (with_reducible repeat (first | apply Kd.R_alloc | apply Kd.R_drewN | apply Kd.R_drew)); (first | exact HO_7.out | (have hz_ := HO_7.out; (try simp only [ob_] at hz_); (try simp only [ob_]); exact hz_))⟩, ⟨by repeat (first | (with_reducible first | exact HB.out | apply below_alloc | apply pw_below_drewN | apply below_drew1) | exact HB.out)⟩⟩
                    · as_aux_lemma =>
                        replace c35 := Bool.eq_false_iff.mpr c35
                        subst c35
                        have H1 : (laws_FnStandardFactors.j1 kj7 t336 t339 t340 t341 t355 false (t341 != false)) = some r := by rw [if_neg (show ¬ (false = true) by decide)] at H; exact H
                        clear H
                        have H := H1
                        clear H1
                        have H' := Aside0.mk H
                        clear H
                        go_wp2
                        go_meet
                        case rel => exact ⟨_, ((t341 != false)), (by first | rfl | (simp; done) | (simp [*]; done)), H', ⟨by have := HJ7.out; first | omega | exact Nat.le_refl _⟩, ⟨by (with_reducible repeat (first | apply Kd.R_alloc | apply Kd.R_drewN | apply Kd.R_drew)); (first | exact HO_5.out | (have hz_ := HO_5.out; (try simp only [ob_] at hz_); (try simp only [ob_]); exact hz_))⟩, ⟨by (with_reducible repeat (first | apply Kd.R_alloc | apply Kd.R_drewN | apply Kd.R_drew)); (first | exact HO_6.out | (have hz_ := HO_6.out; (try simp only [ob_] at hz_); (try simp only [ob_]); exact hz_))⟩, ⟨by (with_reducible repeat (first | apply Kd.R_alloc | apply Kd.R_drewN | apply Kd.R_drew)); (first | exact HO_7.out | (have hz_ := HO_7.out; (try simp only [ob_] at hz_); (try simp only [ob_]); exact hz_))⟩, ⟨by repeat (first | (with_reducible first | exact HB.out | apply below_alloc | apply pw_below_drewN | apply below_drew1) | exact HB.out)⟩⟩
                · replace c33 := Bool.eq_false_iff.mpr c33
                  subst c33
                  have H1 : (if (t356 != false) = true then (laws_FnStandardFactors.j1 kj7 t336 t339 t340 t341 t355 t356 true) else (if t356 = true then (laws_FnStandardFactors.j1 kj7 t336 t339 t340 t341 t355 t356 (t341 != (decide ((t336.length : Int) > 1)))) else (laws_FnStandardFactors.j1 kj7 t336 t339 t340 t341 t355 t356 (t341 != false)))) = some r := by rw [if_neg (show ¬ (false = true) by decide)] at H; exact H
                  clear H
                  have H := H1
                  clear H1
                  by_cases c36 : (t356 != false) = true
                  · as_aux_lemma =>
                      rw [if_pos c36] at H
                      have c36b0 : (t356 != false) = true := c36
                      (try (have c36b1 : decide (t356 = false) = false := by simpa using c36))
                      (try (have c36b2 : (t356 == false) = false := by simpa using c36))
                      clear c36
                      have H' := Aside0.mk H
                      clear H
                      go_wp2
                      go_meet
                      case rel => exact ⟨_, (true), (by first | rfl | (simp; done) | (simp [*]; done)), H', ⟨by have := HJ7.out; first | omega | exact Nat.le_refl _⟩, ⟨by (with_reducible repeat (first | apply Kd.R_alloc | apply Kd.R_drewN | apply Kd.R_drew)); (first | exact HO_5.out | (have hz_ := HO_5.out; (try simp only [ob_] at hz_); (try simp only [ob_]); exact hz_))⟩, ⟨by (with_reducible repeat (first | apply Kd.R_alloc | apply Kd.R_drewN | apply Kd.R_drew)); (first | exact HO_6.out | (have hz_ := HO_6.out; (try simp only [ob_] at hz_); (try simp only [ob_]); exact hz_))⟩, ⟨by (with_reducible repeat (first | apply Kd.R_alloc | apply Kd.R_drewN | apply Kd.R_drew)); (first | exact HO_7.out | (have hz_ := HO_7.out; (try simp only [ob_] at hz_); (try simp only [ob_]); exact hz_))⟩, ⟨by repeat (first | (with_reducible first | exact HB.out | apply below_alloc | apply pw_below_drewN | apply below_drew1) | exact HB.out)⟩⟩
                  · rw [if_neg c36] at H
                    have c36b0 : (t356 != false) = false := by simpa using c36
                    (try (have c36b1 : decide (t356 = false) = true := by simpa using c36))
                    (try (have c36b2 : (t356 == false) = true := by simpa using c36))
                    clear c36
                    by_cases c37 : t356 = true
                    · as_aux_lemma =>
                        subst c37
                        have H1 : (laws_FnStandardFactors.j1 kj7 t336 t339 t340 t341 t355 true (t341 != (decide ((t336.length : Int) > 1)))) = some r := by rw [if_pos rfl] at H; exact H
                        clear H
                        have H := H1
                        clear H1
                        have H' := Aside0.mk H
                        clear H
                        go_wp2
                        go_meet
                        case rel => exact ⟨_, ((t341 != (decide ((t336.length : Int) > 1)))), (by first | rfl | (simp; done) | (simp [*]; done)), H', ⟨by have := HJ7.out; first | omega | exact Nat.le_refl _⟩, ⟨by (with_reducible repeat (first | apply Kd.R_alloc | apply Kd.R_drewN | apply Kd.R_drew)); (first | exact HO_5.out | (have hz_ := HO_5.out; (try simp only [ob_] at hz_); (try simp only [ob_]); exact hz_))⟩, ⟨by (with_reducible repeat (first | apply Kd.R_alloc | apply Kd.R_drewN | apply Kd.R_drew)); (first | exact HO_6.out | (have hz_ := HO_6.out; (try simp only [ob_] at hz_); (try simp only [ob_]); exact hz_))⟩, ⟨by (with_reducible repeat (first | apply Kd.R_alloc | apply Kd.R_drewN | apply Kd.R_drew)); (first | exact HO_7.out | (have hz_ := HO_7.out; (try simp only [ob_] at hz_); (try simp only [ob_]); exact hz_))⟩, ⟨by repeat (first | (with_reducible first | exact HB.out | apply below_alloc | apply pw_below_drewN | apply below_drew1) | exact HB.out)⟩⟩
                    · as_aux_lemma =>
                        replace c37 := Bool.eq_false_iff.mpr c37
                        subst c37
                        have H1 : (laws_FnStandardFactors.j1 kj7 t336 t339 t340 t341 t355 false (t341 != false)) = some r := by rw [if_neg (show ¬ (false = true) by decide)] at H; exact H
                        clear H
                        have H := H1
                        clear H1
                        have H' := Aside0.mk H
                        clear H
                        go_wp2
                        go_meet
                        case rel => exact ⟨_, ((t341 != false)), (by first | rfl | (simp; done) | (simp [*]; done)), H', ⟨by have := HJ7.out; first | omega | exact Nat.le_refl _⟩, ⟨by (with_reducible repeat (first | apply Kd.R_alloc | apply Kd.R_drewN | apply Kd.R_drew)); (first | exact HO_5.out | (have hz_ := HO_5.out; (try simp only [ob_] at hz_); (try simp only [ob_]); exact hz_))⟩, ⟨by (with_reducible repeat (first | apply Kd.R_alloc | apply Kd.R_drewN | apply Kd.R_drew)); (first | exact HO_6.out | (have hz_ := HO_6.out; (try simp only [ob_] at hz_); (try simp only [ob_]); exact hz_))⟩, ⟨by (with_reducible repeat (first | apply Kd.R_alloc | apply Kd.R_drewN | apply Kd.R_drew)); (first | exact HO_7.out | (have hz_ := HO_7.out; (try simp only [ob_] at hz_); (try simp only [ob_]); exact hz_))⟩, ⟨by repeat (first | (with_reducible first | exact HB.out | apply below_alloc | apply pw_below_drewN | apply below_drew1) | exact HB.out)⟩⟩
              · as_aux_lemma =>
                  rw [if_neg c32] at H
                  have c32b0 : (t355.toList == t357.toList) = false := beq_eq_false_iff_ne.mpr c32
                  have c32b1 : (t355.toList != t357.toList) = true := bne_iff_ne.mpr c32
                  have H' := Aside0.mk H
                  clear H
                  go_wp2
                  go_meet
                  case rel => exact ⟨_, (true), (by first | rfl | (simp; done) | (simp [*]; done)), H', ⟨by have := HJ7.out; first | omega | exact Nat.le_refl _⟩, ⟨by (with_reducible repeat (first | apply Kd.R_alloc | apply Kd.R_drewN | apply Kd.R_drew)); (first | exact HO_5.out | (have hz_ := HO_5.out; (try simp only [ob_] at hz_); (try simp only [ob_]); exact hz_))⟩, ⟨by (with_reducible repeat (first | apply Kd.R_alloc | apply Kd.R_drewN | apply Kd.R_drew)); (first | exact HO_6.out | (have hz_ := HO_6.out; (try simp only [ob_] at hz_); (try simp only [ob_]); exact hz_))⟩, ⟨by (with_reducible repeat (first | apply Kd.R_alloc | apply Kd.R_drewN | apply Kd.R_drew)); (first | exact HO_7.out | (have hz_ := HO_7.out; (try simp only [ob_] at hz_); (try simp only [ob_]); exact hz_))⟩, ⟨by repeat (first | (with_reducible first | exact HB.out | apply below_alloc | apply pw_below_drewN | apply below_drew1) | exact HB.out)⟩⟩
          case rest =>
            clear HC27
            try clear c1
            try clear c2
            try clear p2
            try clear c3
            try clear c4
            try clear c10
            try clear c13
            try clear c13b0
            try clear c13b1
            try clear c13b2
            try clear c15
            try clear c20
            try clear c23
            try clear c31
            try clear c31b0
            try clear c31b1
            try clear c31b2
            try clear c32
            try clear c32b0
            try clear c32b1
            try clear c33
            try clear c34
            try clear c34b0
            try clear c34b1
            try clear c34b2
            try clear c35
            try clear c36
            try clear c36b0
            try clear c36b1
            try clear c36b2
            try clear c37
            try clear p2
            obtain ⟨kq, x102_26, rfl, HA, HJ26, HO_5, HO_6, HO_7, HB⟩ := hcut
            cases kq with
            | zero => exact absurd HA.out (by simp [laws_FnStandardFactors.j1])
            | succ kj26 =>
              have H := HA.out
              clear HA
              simp only [laws_FnStandardFactors.j1] at H
              by_cases c38 : x102_26 = true
              · as_aux_lemma =>
                  subst c38
                  have H1 : (some false) = some r := by rw [if_pos rfl] at H; exact H
                  clear H
                  have H := H1
                  clear H1
                  obtain rfl := Option.some.inj H
                  go_wp2
                  go_ret
                  exact ⟨by first | rfl | (simp [errW_none, errW_some] <;> rfl) | (simp [*, errW_none, errW_some] <;> rfl), by repeat (first | (with_reducible first | exact HB.out | apply below_alloc | apply pw_below_drewN | apply below_drew1) | exact HB.out)⟩
              · replace c38 := Bool.eq_false_iff.mpr c38
                subst c38
                have H1 : (if t356 = true then ((impl_WordText.f kj26 t336).bind fun bt361 => (laws_FnStandardFactors.l0 kj26 t336 t339 t340 t341 t355 bt361.1 bt361.2 (⟨#[]⟩ : ByteArray) 0)) else (some true)) = some r := by rw [if_neg (show ¬ (false = true) by decide)] at H; exact H
                clear H
                have H := H1
                clear H1
                by_cases c39 : t356 = true
                · subst c39
                  have H1 : ((impl_WordText.f kj26 t336).bind fun bt361 => (laws_FnStandardFactors.l0 kj26 t336 t339 t340 t341 t355 bt361.1 bt361.2 (⟨#[]⟩ : ByteArray) 0)) = some r := by rw [if_pos rfl] at H; exact H
                  clear H
                  have H := H1
                  clear H1
                  replace H := Option.bind_eq_some_iff.mp H
                  obtain ⟨⟨t361, t362⟩, A400, H⟩ := H
                  replace H : (laws_FnStandardFactors.l0 kj26 t336 t339 t340 t341 t355 t361 t362 (⟨#[]⟩ : ByteArray) 0) = some r := H
                  have A40 := Aside0.mk A400
                  clear A400
                  have H' := Aside0.mk H
                  clear H
                  go_wp2_with (first | ((with_reducible refine gate_callee (f := 32) rfl ?_); refine goesL_ (some 107) rfl rfl Try.func32 (by kernel_rfl) rfl #[.slice Ao10 t336.length co10] rfl (by (try simp only [List.map_toArray, List.map_cons, List.map_nil]); first | done | rfl | (simp only [List.length_drop, List.length_take]; rfl)) ?_; (with_reducible refine (impl_WordText.calls kj26 _ _ t336 t361 t362 _ ?side1 ?side2 A40.out).mono ?_); (case side1 => repeat (first | exact (Kd.R_reads' HO_5.out).2.2 | (with_reducible refine Kd.C_alloc ?_ _) | (with_reducible refine Kd.C_drewN ?_ _) | (with_reducible refine Kd.C_drew ?_))); (case side2 => exact (Kd.R_reads' HO_5.out).2.1); rintro e w41 ⟨rfl, hb⟩; refine ⟨_, rfl, ?_⟩; have n0_ := Aside0.mk (Kd.R_below (by (with_reducible repeat (first | apply Kd.R_alloc | apply Kd.R_drewN | apply Kd.R_drew)); (first | exact HO_5.out | (have hz_ := HO_5.out; (try simp only [ob_] at hz_); (try simp only [ob_]); exact hz_))) hb); have n1_ := Aside0.mk (Kd.R_below (by (with_reducible repeat (first | apply Kd.R_alloc | apply Kd.R_drewN | apply Kd.R_drew)); (first | exact HO_6.out | (have hz_ := HO_6.out; (try simp only [ob_] at hz_); (try simp only [ob_]); exact hz_))) hb); have n2_ := Aside0.mk (Kd.R_below (by (with_reducible repeat (first | apply Kd.R_alloc | apply Kd.R_drewN | apply Kd.R_drew)); (first | exact HO_7.out | (have hz_ := HO_7.out; (try simp only [ob_] at hz_); (try simp only [ob_]); exact hz_))) hb); have n3_ := Aside0.mk (below_step (by repeat (first | (with_reducible first | exact HB.out | apply below_alloc | apply pw_below_drewN | apply below_drew1) | exact HB.out)) hb); clear HO_5; clear HO_6; clear HO_7; clear HB; have HO_5 := n0_; have HO_6 := n1_; have HO_7 := n2_; have HB := n3_; clear n0_ n1_ n2_ n3_; (try clear hb); (try clear hb2); (try clear hk); (try clear hi)))
                  go_loopg [20, 21] kj26 (fun kq v20 v21 w' => ∃ (x20_3 : ByteArray) (x21_3 : Int), v20 = .string x20_3 ∧ v21 = .int .i64 x21_3 ∧ Aside0 (laws_FnStandardFactors.l0 kq t336 t339 t340 t341 t355 t361 t362 x20_3 x21_3 = some r) ∧ Aside0 (kq ≤ kj26) ∧ Aside0 (Kd.R (Kd.int .i64) 3 w' w.heap.size (fun k_ => some k_ ≠ (v342 : Value).ownBlock ∧ some k_ ≠ (v344 : Value).ownBlock) (.slice Ao10 t336.length co10) t336) ∧ Aside0 (Kd.R (Kd.int .i64) 3 w' w.heap.size (fun k_ => some k_ ≠ ((.slice Ao10 t336.length co10) : Value).ownBlock ∧ some k_ ≠ (v344 : Value).ownBlock) v342 t339) ∧ Aside0 (Kd.R (Kd.int .i64) 3 w' w.heap.size (fun k_ => some k_ ≠ ((.slice Ao10 t336.length co10) : Value).ownBlock ∧ some k_ ≠ (v342 : Value).ownBlock) v344 t340) ∧ Aside0 (Below w.heap.size w w'))
                  case atStart => exact ⟨((⟨#[]⟩ : ByteArray)), (0), (by first | rfl | (simp; done) | (simp [*]; done)), (by first | rfl | (simp; done) | (simp [*]; done)), H', ⟨Nat.le_refl _⟩, ⟨by (with_reducible repeat (first | apply Kd.R_alloc | apply Kd.R_drewN | apply Kd.R_drew)); (first | exact HO_5.out | (have hz_ := HO_5.out; (try simp only [ob_] at hz_); (try simp only [ob_]); exact hz_))⟩, ⟨by (with_reducible repeat (first | apply Kd.R_alloc | apply Kd.R_drewN | apply Kd.R_drew)); (first | exact HO_6.out | (have hz_ := HO_6.out; (try simp only [ob_] at hz_); (try simp only [ob_]); exact hz_))⟩, ⟨by (with_reducible repeat (first | apply Kd.R_alloc | apply Kd.R_drewN | apply Kd.R_drew)); (first | exact HO_7.out | (have hz_ := HO_7.out; (try simp only [ob_] at hz_); (try simp only [ob_]); exact hz_))⟩, ⟨by repeat (first | (with_reducible first | exact HB.out | apply below_alloc | apply pw_below_drewN | apply below_drew1) | exact HB.out)⟩⟩
                  case round =>
                    clear H'
                    try clear c1
                    try clear c2
                    try clear p2
                    try clear c3
                    try clear c4
                    try clear c10
                    try clear c13
                    try clear c13b0
                    try clear c13b1
                    try clear c13b2
                    try clear c15
                    try clear c20
                    try clear c23
                    try clear c31
                    try clear c31b0
                    try clear c31b1
                    try clear c31b2
                    try clear c32
                    try clear c32b0
                    try clear c32b1
                    try clear c33
                    try clear c34
                    try clear c34b0
                    try clear c34b1
                    try clear c34b2
                    try clear c35
                    try clear c36
                    try clear c36b0
                    try clear c36b1
                    try clear c36b2
                    try clear c37
                    try clear c38
                    try clear c39
                    try clear c40
                    try clear c41
                    try clear p2
                    obtain ⟨x20_3, x21_3, rfl, rfl, HA, HK3, HO_5, HO_6, HO_7, HB⟩ := hrel
                    cases gk with
                    | zero => exact absurd HA.out (by simp [laws_FnStandardFactors.l0])
                    | succ k3 =>
                      have H := HA.out
                      clear HA
                      simp only [laws_FnStandardFactors.l0] at H
                      by_cases c42 : x21_3 < (t355.size : Int)
                      · rw [if_pos c42] at H
                        have c42b0 : decide (x21_3 < (t355.size : Int)) = true := decide_eq_true c42
                        clear c42
                        by_cases c43 : 0 ≤ x21_3
                        · rw [if_pos c43] at H
                          have c43b0 : decide (0 ≤ x21_3) = true := decide_eq_true c43
                          clear c43
                          by_cases c45 : (bt t355 x21_3) ≥ 48
                          · rw [if_pos c45] at H
                            have c45b0 : decide (48 ≤ (bt t355 x21_3)) = true := decide_eq_true c45
                            clear c45
                            by_cases c47 : (bt t355 x21_3) ≤ 57
                            · rw [if_pos c47] at H
                              have c47b0 : decide ((bt t355 x21_3) ≤ 57) = true := decide_eq_true c47
                              clear c47
                              have c48b0 := eq_true (of_decide_eq_true (by first | (with_reducible assumption) | assumption) : 0 ≤ x21_3)
                              by_cases c49 : x21_3 ≤ (wrap64 (x21_3 + 1))
                              · rw [if_pos c49] at H
                                have c49b0 := eq_true c49
                                have c49b1 : decide (x21_3 ≤ (wrap64 (x21_3 + 1))) = true := decide_eq_true c49
                                by_cases c50 : (wrap64 (x21_3 + 1)) ≤ (t355.size : Int)
                                · rw [if_pos c50] at H
                                  have c50b0 := eq_true c50
                                  have c50b1 : decide ((wrap64 (x21_3 + 1)) ≤ (t355.size : Int)) = true := decide_eq_true c50
                                  by_cases c51 : x20_3.size + (t355.extract (x21_3 : Int).toNat ((wrap64 (x21_3 + 1)) : Int).toNat).size ≤ 9223372036854775807
                                  · as_aux_lemma =>
                                      rw [if_pos c51] at H
                                      have c51b0 := eq_true c51
                                      have c51b1 : decide (x20_3.size + (t355.extract (x21_3 : Int).toNat ((wrap64 (x21_3 + 1)) : Int).toNat).size ≤ 9223372036854775807) = true := decide_eq_true c51
                                      try have c51b2 : (9223372036854775807 < x20_3.size + (t355.extract (x21_3 : Int).toNat ((wrap64 (x21_3 + 1)) : Int).toNat).size) = False := eq_false (Nat.not_lt.2 c51)
                                      have H' := Aside0.mk H
                                      clear H
                                      have p44 : 0 ≤ (x21_3 : Int) := of_decide_eq_true (by first | (with_reducible assumption) | assumption)
                                      have q44 : x21_3 < (t355.size : Int) := of_decide_eq_true (by first | (with_reducible assumption) | assumption)
                                      have hx44 := bt_at t355 x21_3
                                      replace p44 := eq_true p44
                                      replace q44 := eq_true q44
                                      have p46 : 0 ≤ (x21_3 : Int) := of_decide_eq_true (by first | (with_reducible assumption) | assumption)
                                      have q46 : x21_3 < (t355.size : Int) := of_decide_eq_true (by first | (with_reducible assumption) | assumption)
                                      have hx46 := bt_at t355 x21_3
                                      replace p46 := eq_true p46
                                      replace q46 := eq_true q46
                                      go_wp2
                                      go_roundg k3
                                      case measure => have := HJ7.out; have := HJ26.out; have := HK3.out; omega
                                      case rel => exact ⟨(x20_3 ++ (t355.extract (x21_3 : Int).toNat ((wrap64 (x21_3 + 1)) : Int).toNat)), (wrap64 (x21_3 + 1)), (by first | rfl | (simp; done) | (simp [*]; done)), (by first | rfl | (simp; done) | (simp [*]; done)), H', ⟨by have := HJ7.out; have := HJ26.out; have := HK3.out; omega⟩, ⟨by (with_reducible repeat (first | apply Kd.R_alloc | apply Kd.R_drewN | apply Kd.R_drew)); (first | exact HO_5.out | (have hz_ := HO_5.out; (try simp only [ob_] at hz_); (try simp only [ob_]); exact hz_))⟩, ⟨by (with_reducible repeat (first | apply Kd.R_alloc | apply Kd.R_drewN | apply Kd.R_drew)); (first | exact HO_6.out | (have hz_ := HO_6.out; (try simp only [ob_] at hz_); (try simp only [ob_]); exact hz_))⟩, ⟨by (with_reducible repeat (first | apply Kd.R_alloc | apply Kd.R_drewN | apply Kd.R_drew)); (first | exact HO_7.out | (have hz_ := HO_7.out; (try simp only [ob_] at hz_); (try simp only [ob_]); exact hz_))⟩, ⟨by repeat (first | (with_reducible first | exact HB.out | apply below_alloc | apply pw_below_drewN | apply below_drew1) | exact HB.out)⟩⟩
                                  · rw [if_neg c51] at H
                                    exact absurd H (by simp)
                                · rw [if_neg c50] at H
                                  exact absurd H (by simp)
                              · rw [if_neg c49] at H
                                exact absurd H (by simp)
                            · as_aux_lemma =>
                                rw [if_neg c47] at H
                                have c47b0 : decide ((bt t355 x21_3) ≤ 57) = false := decide_eq_false c47
                                clear c47
                                have H' := Aside0.mk H
                                clear H
                                have p44 : 0 ≤ (x21_3 : Int) := of_decide_eq_true (by first | (with_reducible assumption) | assumption)
                                have q44 : x21_3 < (t355.size : Int) := of_decide_eq_true (by first | (with_reducible assumption) | assumption)
                                have hx44 := bt_at t355 x21_3
                                replace p44 := eq_true p44
                                replace q44 := eq_true q44
                                have p46 : 0 ≤ (x21_3 : Int) := of_decide_eq_true (by first | (with_reducible assumption) | assumption)
                                have q46 : x21_3 < (t355.size : Int) := of_decide_eq_true (by first | (with_reducible assumption) | assumption)
                                have hx46 := bt_at t355 x21_3
                                replace p46 := eq_true p46
                                replace q46 := eq_true q46
                                go_wp2
                                go_roundg k3
                                case measure => have := HJ7.out; have := HJ26.out; have := HK3.out; omega
                                case rel => exact ⟨(x20_3), (wrap64 (x21_3 + 1)), (by first | rfl | (simp; done) | (simp [*]; done)), (by first | rfl | (simp; done) | (simp [*]; done)), H', ⟨by have := HJ7.out; have := HJ26.out; have := HK3.out; omega⟩, ⟨by (with_reducible repeat (first | apply Kd.R_alloc | apply Kd.R_drewN | apply Kd.R_drew)); (first | exact HO_5.out | (have hz_ := HO_5.out; (try simp only [ob_] at hz_); (try simp only [ob_]); exact hz_))⟩, ⟨by (with_reducible repeat (first | apply Kd.R_alloc | apply Kd.R_drewN | apply Kd.R_drew)); (first | exact HO_6.out | (have hz_ := HO_6.out; (try simp only [ob_] at hz_); (try simp only [ob_]); exact hz_))⟩, ⟨by (with_reducible repeat (first | apply Kd.R_alloc | apply Kd.R_drewN | apply Kd.R_drew)); (first | exact HO_7.out | (have hz_ := HO_7.out; (try simp only [ob_] at hz_); (try simp only [ob_]); exact hz_))⟩, ⟨by repeat (first | (with_reducible first | exact HB.out | apply below_alloc | apply pw_below_drewN | apply below_drew1) | exact HB.out)⟩⟩
                          · as_aux_lemma =>
                              rw [if_neg c45] at H
                              have c45b0 : decide (48 ≤ (bt t355 x21_3)) = false := decide_eq_false c45
                              clear c45
                              have H' := Aside0.mk H
                              clear H
                              have p44 : 0 ≤ (x21_3 : Int) := of_decide_eq_true (by first | (with_reducible assumption) | assumption)
                              have q44 : x21_3 < (t355.size : Int) := of_decide_eq_true (by first | (with_reducible assumption) | assumption)
                              have hx44 := bt_at t355 x21_3
                              replace p44 := eq_true p44
                              replace q44 := eq_true q44
                              go_wp2
                              go_roundg k3
                              case measure => have := HJ7.out; have := HJ26.out; have := HK3.out; omega
                              case rel => exact ⟨(x20_3), (wrap64 (x21_3 + 1)), (by first | rfl | (simp; done) | (simp [*]; done)), (by first | rfl | (simp; done) | (simp [*]; done)), H', ⟨by have := HJ7.out; have := HJ26.out; have := HK3.out; omega⟩, ⟨by (with_reducible repeat (first | apply Kd.R_alloc | apply Kd.R_drewN | apply Kd.R_drew)); (first | exact HO_5.out | (have hz_ := HO_5.out; (try simp only [ob_] at hz_); (try simp only [ob_]); exact hz_))⟩, ⟨by (with_reducible repeat (first | apply Kd.R_alloc | apply Kd.R_drewN | apply Kd.R_drew)); (first | exact HO_6.out | (have hz_ := HO_6.out; (try simp only [ob_] at hz_); (try simp only [ob_]); exact hz_))⟩, ⟨by (with_reducible repeat (first | apply Kd.R_alloc | apply Kd.R_drewN | apply Kd.R_drew)); (first | exact HO_7.out | (have hz_ := HO_7.out; (try simp only [ob_] at hz_); (try simp only [ob_]); exact hz_))⟩, ⟨by repeat (first | (with_reducible first | exact HB.out | apply below_alloc | apply pw_below_drewN | apply below_drew1) | exact HB.out)⟩⟩
                        · rw [if_neg c43] at H
                          exact absurd H (by simp)
                      · rw [if_neg c42] at H
                        have c42b0 : decide (x21_3 < (t355.size : Int)) = false := decide_eq_false c42
                        clear c42
                        have HC52 := Aside0.mk H
                        clear H
                        go_upto_region 22 with (fail)
                        go_cut [148] (fun v148 wc => ∃ (kq : Nat) (x148_51 : Bool), v148 = .bool x148_51 ∧ Aside0 (laws_FnStandardFactors.j3 kq t336 t339 t340 t341 t355 x148_51 = some r) ∧ Aside0 (kq ≤ k3) ∧ Aside0 (Kd.R (Kd.int .i64) 3 wc w.heap.size (fun k_ => some k_ ≠ (v342 : Value).ownBlock ∧ some k_ ≠ (v344 : Value).ownBlock) (.slice Ao10 t336.length co10) t336) ∧ Aside0 (Kd.R (Kd.int .i64) 3 wc w.heap.size (fun k_ => some k_ ≠ ((.slice Ao10 t336.length co10) : Value).ownBlock ∧ some k_ ≠ (v344 : Value).ownBlock) v342 t339) ∧ Aside0 (Kd.R (Kd.int .i64) 3 wc w.heap.size (fun k_ => some k_ ≠ ((.slice Ao10 t336.length co10) : Value).ownBlock ∧ some k_ ≠ (v342 : Value).ownBlock) v344 t340) ∧ Aside0 (Below w.heap.size w wc))
                        case first =>
                          have H := HC52.out
                          clear HC52
                          by_cases c53 : t362 = true
                          · subst c53
                            have H1 : (if x20_3.toList = t361.toList then (laws_FnStandardFactors.j3 k3 t336 t339 t340 t341 t355 ((t355.size : Int) != (wrap64 ((wrap64 (4 * (t336.length : Int))) - 3)))) else (laws_FnStandardFactors.j3 k3 t336 t339 t340 t341 t355 true)) = some r := by rw [if_pos rfl] at H; exact H
                            clear H
                            have H := H1
                            clear H1
                            by_cases c54 : x20_3.toList = t361.toList
                            · as_aux_lemma =>
                                rw [if_pos c54] at H
                                have c54b0 : (x20_3.toList == t361.toList) = true := beq_iff_eq.mpr c54
                                have c54b1 : (x20_3.toList != t361.toList) = false := bne_eq_false_iff_eq.mpr c54
                                clear c54
                                (first | rw [c54b0] | (simp only [i64_w, i32_w]; rw [c54b0]) | skip)
                                have H' := Aside0.mk H
                                clear H
                                go_wp2
                                go_meet
                                case rel => exact ⟨_, (((t355.size : Int) != (wrap64 ((wrap64 (4 * (t336.length : Int))) - 3)))), (by first | rfl | (simp; done) | (simp [*]; done)), H', ⟨by have := HJ7.out; have := HJ26.out; have := HK3.out; first | omega | exact Nat.le_refl _⟩, ⟨by (with_reducible repeat (first | apply Kd.R_alloc | apply Kd.R_drewN | apply Kd.R_drew)); (first | exact HO_5.out | (have hz_ := HO_5.out; (try simp only [ob_] at hz_); (try simp only [ob_]); exact hz_))⟩, ⟨by (with_reducible repeat (first | apply Kd.R_alloc | apply Kd.R_drewN | apply Kd.R_drew)); (first | exact HO_6.out | (have hz_ := HO_6.out; (try simp only [ob_] at hz_); (try simp only [ob_]); exact hz_))⟩, ⟨by (with_reducible repeat (first | apply Kd.R_alloc | apply Kd.R_drewN | apply Kd.R_drew)); (first | exact HO_7.out | (have hz_ := HO_7.out; (try simp only [ob_] at hz_); (try simp only [ob_]); exact hz_))⟩, ⟨by repeat (first | (with_reducible first | exact HB.out | apply below_alloc | apply pw_below_drewN | apply below_drew1) | exact HB.out)⟩⟩
                            · as_aux_lemma =>
                                rw [if_neg c54] at H
                                have c54b0 : (x20_3.toList == t361.toList) = false := beq_eq_false_iff_ne.mpr c54
                                have c54b1 : (x20_3.toList != t361.toList) = true := bne_iff_ne.mpr c54
                                (first | rw [c54b0] | (simp only [i64_w, i32_w]; rw [c54b0]) | skip)
                                have H' := Aside0.mk H
                                clear H
                                go_wp2
                                go_meet
                                case rel => exact ⟨_, (true), (by first | rfl | (simp; done) | (simp [*]; done)), H', ⟨by have := HJ7.out; have := HJ26.out; have := HK3.out; first | omega | exact Nat.le_refl _⟩, ⟨by (with_reducible repeat (first | apply Kd.R_alloc | apply Kd.R_drewN | apply Kd.R_drew)); (first | exact HO_5.out | (have hz_ := HO_5.out; (try simp only [ob_] at hz_); (try simp only [ob_]); exact hz_))⟩, ⟨by (with_reducible repeat (first | apply Kd.R_alloc | apply Kd.R_drewN | apply Kd.R_drew)); (first | exact HO_6.out | (have hz_ := HO_6.out; (try simp only [ob_] at hz_); (try simp only [ob_]); exact hz_))⟩, ⟨by (with_reducible repeat (first | apply Kd.R_alloc | apply Kd.R_drewN | apply Kd.R_drew)); (first | exact HO_7.out | (have hz_ := HO_7.out; (try simp only [ob_] at hz_); (try simp only [ob_]); exact hz_))⟩, ⟨by repeat (first | (with_reducible first | exact HB.out | apply below_alloc | apply pw_below_drewN | apply below_drew1) | exact HB.out)⟩⟩
                          · as_aux_lemma =>
                              replace c53 := Bool.eq_false_iff.mpr c53
                              subst c53
                              have H1 : (laws_FnStandardFactors.j3 k3 t336 t339 t340 t341 t355 true) = some r := by rw [if_neg (show ¬ (false = true) by decide)] at H; exact H
                              clear H
                              have H := H1
                              clear H1
                              have H' := Aside0.mk H
                              clear H
                              go_wp2
                              go_meet
                              case rel => exact ⟨_, (true), (by first | rfl | (simp; done) | (simp [*]; done)), H', ⟨by have := HJ7.out; have := HJ26.out; have := HK3.out; first | omega | exact Nat.le_refl _⟩, ⟨by (with_reducible repeat (first | apply Kd.R_alloc | apply Kd.R_drewN | apply Kd.R_drew)); (first | exact HO_5.out | (have hz_ := HO_5.out; (try simp only [ob_] at hz_); (try simp only [ob_]); exact hz_))⟩, ⟨by (with_reducible repeat (first | apply Kd.R_alloc | apply Kd.R_drewN | apply Kd.R_drew)); (first | exact HO_6.out | (have hz_ := HO_6.out; (try simp only [ob_] at hz_); (try simp only [ob_]); exact hz_))⟩, ⟨by (with_reducible repeat (first | apply Kd.R_alloc | apply Kd.R_drewN | apply Kd.R_drew)); (first | exact HO_7.out | (have hz_ := HO_7.out; (try simp only [ob_] at hz_); (try simp only [ob_]); exact hz_))⟩, ⟨by repeat (first | (with_reducible first | exact HB.out | apply below_alloc | apply pw_below_drewN | apply below_drew1) | exact HB.out)⟩⟩
                        case rest =>
                          clear HC52
                          try clear c1
                          try clear c2
                          try clear p2
                          try clear c3
                          try clear c4
                          try clear p4
                          try clear q4
                          try clear hx4
                          try clear c5
                          try clear p6
                          try clear c10
                          try clear c13
                          try clear c13b0
                          try clear c13b1
                          try clear c13b2
                          try clear c15
                          try clear c20
                          try clear c23
                          try clear c31
                          try clear c31b0
                          try clear c31b1
                          try clear c31b2
                          try clear c32
                          try clear c32b0
                          try clear c32b1
                          try clear c33
                          try clear c34
                          try clear c34b0
                          try clear c34b1
                          try clear c34b2
                          try clear c35
                          try clear c36
                          try clear c36b0
                          try clear c36b1
                          try clear c36b2
                          try clear c37
                          try clear c38
                          try clear c39
                          try clear c40
                          try clear c41
                          try clear c42
                          try clear c42b0
                          try clear c43
                          try clear c43b0
                          try clear p44
                          try clear q44
                          try clear hx44
                          try clear c45
                          try clear c45b0
                          try clear p46
                          try clear q46
                          try clear hx46
                          try clear c47
                          try clear c47b0
                          try clear c48
                          try clear c48b0
                          try clear c49
                          try clear c49b0
                          try clear c49b1
                          try clear c50
                          try clear c50b0
                          try clear c50b1
                          try clear c51
                          try clear c51b0
                          try clear c51b1
                          try clear c51b2
                          try clear c53
                          try clear c54
                          try clear c54b0
                          try clear c54b1
                          try clear p2
                          try clear p44
                          try clear p46
                          try clear q44
                          try clear q46
                          obtain ⟨kq, x148_51, rfl, HA, HJ51, HO_5, HO_6, HO_7, HB⟩ := hcut
                          cases kq with
                          | zero => exact absurd HA.out (by simp [laws_FnStandardFactors.j3])
                          | succ kj51 =>
                            have H := HA.out
                            clear HA
                            simp only [laws_FnStandardFactors.j3] at H
                            by_cases c55 : x148_51 = true
                            · as_aux_lemma =>
                                subst c55
                                have H1 : (some false) = some r := by rw [if_pos rfl] at H; exact H
                                clear H
                                have H := H1
                                clear H1
                                obtain rfl := Option.some.inj H
                                go_wp2
                                go_ret
                                exact ⟨by first | rfl | (simp [errW_none, errW_some] <;> rfl) | (simp [*, errW_none, errW_some] <;> rfl), by repeat (first | (with_reducible first | exact HB.out | apply below_alloc | apply pw_below_drewN | apply below_drew1) | exact HB.out)⟩
                            · replace c55 := Bool.eq_false_iff.mpr c55
                              subst c55
                              have H1 : (if t341 = true then ((impl_IsLyndon.f kj51 t339).bind fun bt363 => ((impl_IsLyndon.f kj51 t340).bind fun bt365 => ((impl_BracketText.f kj51 t339).bind fun bt367 => ((impl_BracketText.f kj51 t340).bind fun bt369 => (if bt363.2 = true then (if bt365.2 = true then (if bt367.2 = true then (if bt369.2 = true then (if bt363.1 = true then (if bt365.1 = true then ((laws_tLess.f kj51 t339 t340).bind fun t371 => (if t371 = true then ((some (([] : List Int) : List Int)).bind fun y372 => (if y372.length + t339.length < 17592186044416 then ((some (y372 ++ t339 : List Int)).bind fun y375 => (if y375.length + t340.length < 17592186044416 then ((laws_tSame.f kj51 (y375 ++ t340) t336).bind fun t381 => (if t381 = true then (if 1 + bt367.1.size ≤ 9223372036854775807 then (if (1 + bt367.1.size) + 1 ≤ 9223372036854775807 then (if (1 + bt367.1.size + 1) + bt369.1.size ≤ 9223372036854775807 then (if (1 + bt367.1.size + 1 + bt369.1.size) + 1 ≤ 9223372036854775807 then (some (t355.toList == (((((⟨#[91]⟩ : ByteArray) ++ bt367.1) ++ (⟨#[44]⟩ : ByteArray)) ++ bt369.1) ++ (⟨#[93]⟩ : ByteArray)).toList)) else (none)) else (none)) else (none)) else (none)) else (some false))) else (none))) else (none))) else (some false))) else (some false)) else (some false)) else (some false)) else (some false)) else (some false)) else (some false)))))) else (some true)) = some r := by rw [if_neg (show ¬ (false = true) by decide)] at H; exact H
                              clear H
                              have H := H1
                              clear H1
                              by_cases c56 : t341 = true
                              · subst c56
                                have H1 : ((impl_IsLyndon.f kj51 t339).bind fun bt363 => ((impl_IsLyndon.f kj51 t340).bind fun bt365 => ((impl_BracketText.f kj51 t339).bind fun bt367 => ((impl_BracketText.f kj51 t340).bind fun bt369 => (if bt363.2 = true then (if bt365.2 = true then (if bt367.2 = true then (if bt369.2 = true then (if bt363.1 = true then (if bt365.1 = true then ((laws_tLess.f kj51 t339 t340).bind fun t371 => (if t371 = true then ((some (([] : List Int) : List Int)).bind fun y372 => (if y372.length + t339.length < 17592186044416 then ((some (y372 ++ t339 : List Int)).bind fun y375 => (if y375.length + t340.length < 17592186044416 then ((laws_tSame.f kj51 (y375 ++ t340) t336).bind fun t381 => (if t381 = true then (if 1 + bt367.1.size ≤ 9223372036854775807 then (if (1 + bt367.1.size) + 1 ≤ 9223372036854775807 then (if (1 + bt367.1.size + 1) + bt369.1.size ≤ 9223372036854775807 then (if (1 + bt367.1.size + 1 + bt369.1.size) + 1 ≤ 9223372036854775807 then (some (t355.toList == (((((⟨#[91]⟩ : ByteArray) ++ bt367.1) ++ (⟨#[44]⟩ : ByteArray)) ++ bt369.1) ++ (⟨#[93]⟩ : ByteArray)).toList)) else (none)) else (none)) else (none)) else (none)) else (some false))) else (none))) else (none))) else (some false))) else (some false)) else (some false)) else (some false)) else (some false)) else (some false)) else (some false)))))) = some r := by rw [if_pos rfl] at H; exact H
                                clear H
                                have H := H1
                                clear H1
                                replace H := Option.bind_eq_some_iff.mp H
                                obtain ⟨⟨t363, t364⟩, A570, H⟩ := H
                                replace H : ((impl_IsLyndon.f kj51 t340).bind fun bt365 => ((impl_BracketText.f kj51 t339).bind fun bt367 => ((impl_BracketText.f kj51 t340).bind fun bt369 => (if t364 = true then (if bt365.2 = true then (if bt367.2 = true then (if bt369.2 = true then (if t363 = true then (if bt365.1 = true then ((laws_tLess.f kj51 t339 t340).bind fun t371 => (if t371 = true then ((some (([] : List Int) : List Int)).bind fun y372 => (if y372.length + t339.length < 17592186044416 then ((some (y372 ++ t339 : List Int)).bind fun y375 => (if y375.length + t340.length < 17592186044416 then ((laws_tSame.f kj51 (y375 ++ t340) t336).bind fun t381 => (if t381 = true then (if 1 + bt367.1.size ≤ 9223372036854775807 then (if (1 + bt367.1.size) + 1 ≤ 9223372036854775807 then (if (1 + bt367.1.size + 1) + bt369.1.size ≤ 9223372036854775807 then (if (1 + bt367.1.size + 1 + bt369.1.size) + 1 ≤ 9223372036854775807 then (some (t355.toList == (((((⟨#[91]⟩ : ByteArray) ++ bt367.1) ++ (⟨#[44]⟩ : ByteArray)) ++ bt369.1) ++ (⟨#[93]⟩ : ByteArray)).toList)) else (none)) else (none)) else (none)) else (none)) else (some false))) else (none))) else (none))) else (some false))) else (some false)) else (some false)) else (some false)) else (some false)) else (some false)) else (some false))))) = some r := H
                                have A57 := Aside0.mk A570
                                clear A570
                                replace H := Option.bind_eq_some_iff.mp H
                                obtain ⟨⟨t365, t366⟩, A580, H⟩ := H
                                replace H : ((impl_BracketText.f kj51 t339).bind fun bt367 => ((impl_BracketText.f kj51 t340).bind fun bt369 => (if t364 = true then (if t366 = true then (if bt367.2 = true then (if bt369.2 = true then (if t363 = true then (if t365 = true then ((laws_tLess.f kj51 t339 t340).bind fun t371 => (if t371 = true then ((some (([] : List Int) : List Int)).bind fun y372 => (if y372.length + t339.length < 17592186044416 then ((some (y372 ++ t339 : List Int)).bind fun y375 => (if y375.length + t340.length < 17592186044416 then ((laws_tSame.f kj51 (y375 ++ t340) t336).bind fun t381 => (if t381 = true then (if 1 + bt367.1.size ≤ 9223372036854775807 then (if (1 + bt367.1.size) + 1 ≤ 9223372036854775807 then (if (1 + bt367.1.size + 1) + bt369.1.size ≤ 9223372036854775807 then (if (1 + bt367.1.size + 1 + bt369.1.size) + 1 ≤ 9223372036854775807 then (some (t355.toList == (((((⟨#[91]⟩ : ByteArray) ++ bt367.1) ++ (⟨#[44]⟩ : ByteArray)) ++ bt369.1) ++ (⟨#[93]⟩ : ByteArray)).toList)) else (none)) else (none)) else (none)) else (none)) else (some false))) else (none))) else (none))) else (some false))) else (some false)) else (some false)) else (some false)) else (some false)) else (some false)) else (some false)))) = some r := H
                                have A58 := Aside0.mk A580
                                clear A580
                                replace H := Option.bind_eq_some_iff.mp H
                                obtain ⟨⟨t367, t368⟩, A590, H⟩ := H
                                replace H : ((impl_BracketText.f kj51 t340).bind fun bt369 => (if t364 = true then (if t366 = true then (if t368 = true then (if bt369.2 = true then (if t363 = true then (if t365 = true then ((laws_tLess.f kj51 t339 t340).bind fun t371 => (if t371 = true then ((some (([] : List Int) : List Int)).bind fun y372 => (if y372.length + t339.length < 17592186044416 then ((some (y372 ++ t339 : List Int)).bind fun y375 => (if y375.length + t340.length < 17592186044416 then ((laws_tSame.f kj51 (y375 ++ t340) t336).bind fun t381 => (if t381 = true then (if 1 + t367.size ≤ 9223372036854775807 then (if (1 + t367.size) + 1 ≤ 9223372036854775807 then (if (1 + t367.size + 1) + bt369.1.size ≤ 9223372036854775807 then (if (1 + t367.size + 1 + bt369.1.size) + 1 ≤ 9223372036854775807 then (some (t355.toList == (((((⟨#[91]⟩ : ByteArray) ++ t367) ++ (⟨#[44]⟩ : ByteArray)) ++ bt369.1) ++ (⟨#[93]⟩ : ByteArray)).toList)) else (none)) else (none)) else (none)) else (none)) else (some false))) else (none))) else (none))) else (some false))) else (some false)) else (some false)) else (some false)) else (some false)) else (some false)) else (some false))) = some r := H
                                have A59 := Aside0.mk A590
                                clear A590
                                replace H := Option.bind_eq_some_iff.mp H
                                obtain ⟨⟨t369, t370⟩, A600, H⟩ := H
                                replace H : (if t364 = true then (if t366 = true then (if t368 = true then (if t370 = true then (if t363 = true then (if t365 = true then ((laws_tLess.f kj51 t339 t340).bind fun t371 => (if t371 = true then ((some (([] : List Int) : List Int)).bind fun y372 => (if y372.length + t339.length < 17592186044416 then ((some (y372 ++ t339 : List Int)).bind fun y375 => (if y375.length + t340.length < 17592186044416 then ((laws_tSame.f kj51 (y375 ++ t340) t336).bind fun t381 => (if t381 = true then (if 1 + t367.size ≤ 9223372036854775807 then (if (1 + t367.size) + 1 ≤ 9223372036854775807 then (if (1 + t367.size + 1) + t369.size ≤ 9223372036854775807 then (if (1 + t367.size + 1 + t369.size) + 1 ≤ 9223372036854775807 then (some (t355.toList == (((((⟨#[91]⟩ : ByteArray) ++ t367) ++ (⟨#[44]⟩ : ByteArray)) ++ t369) ++ (⟨#[93]⟩ : ByteArray)).toList)) else (none)) else (none)) else (none)) else (none)) else (some false))) else (none))) else (none))) else (some false))) else (some false)) else (some false)) else (some false)) else (some false)) else (some false)) else (some false)) = some r := H
                                have A60 := Aside0.mk A600
                                clear A600
                                by_cases c61 : t364 = true
                                · subst c61
                                  have H1 : (if t366 = true then (if t368 = true then (if t370 = true then (if t363 = true then (if t365 = true then ((laws_tLess.f kj51 t339 t340).bind fun t371 => (if t371 = true then ((some (([] : List Int) : List Int)).bind fun y372 => (if y372.length + t339.length < 17592186044416 then ((some (y372 ++ t339 : List Int)).bind fun y375 => (if y375.length + t340.length < 17592186044416 then ((laws_tSame.f kj51 (y375 ++ t340) t336).bind fun t381 => (if t381 = true then (if 1 + t367.size ≤ 9223372036854775807 then (if (1 + t367.size) + 1 ≤ 9223372036854775807 then (if (1 + t367.size + 1) + t369.size ≤ 9223372036854775807 then (if (1 + t367.size + 1 + t369.size) + 1 ≤ 9223372036854775807 then (some (t355.toList == (((((⟨#[91]⟩ : ByteArray) ++ t367) ++ (⟨#[44]⟩ : ByteArray)) ++ t369) ++ (⟨#[93]⟩ : ByteArray)).toList)) else (none)) else (none)) else (none)) else (none)) else (some false))) else (none))) else (none))) else (some false))) else (some false)) else (some false)) else (some false)) else (some false)) else (some false)) = some r := by rw [if_pos rfl] at H; exact H
                                  clear H
                                  have H := H1
                                  clear H1
                                  by_cases c62 : t366 = true
                                  · subst c62
                                    have H1 : (if t368 = true then (if t370 = true then (if t363 = true then (if t365 = true then ((laws_tLess.f kj51 t339 t340).bind fun t371 => (if t371 = true then ((some (([] : List Int) : List Int)).bind fun y372 => (if y372.length + t339.length < 17592186044416 then ((some (y372 ++ t339 : List Int)).bind fun y375 => (if y375.length + t340.length < 17592186044416 then ((laws_tSame.f kj51 (y375 ++ t340) t336).bind fun t381 => (if t381 = true then (if 1 + t367.size ≤ 9223372036854775807 then (if (1 + t367.size) + 1 ≤ 9223372036854775807 then (if (1 + t367.size + 1) + t369.size ≤ 9223372036854775807 then (if (1 + t367.size + 1 + t369.size) + 1 ≤ 9223372036854775807 then (some (t355.toList == (((((⟨#[91]⟩ : ByteArray) ++ t367) ++ (⟨#[44]⟩ : ByteArray)) ++ t369) ++ (⟨#[93]⟩ : ByteArray)).toList)) else (none)) else (none)) else (none)) else (none)) else (some false))) else (none))) else (none))) else (some false))) else (some false)) else (some false)) else (some false)) else (some false)) = some r := by rw [if_pos rfl] at H; exact H
                                    clear H
                                    have H := H1
                                    clear H1
                                    by_cases c63 : t368 = true
                                    · subst c63
                                      have H1 : (if t370 = true then (if t363 = true then (if t365 = true then ((laws_tLess.f kj51 t339 t340).bind fun t371 => (if t371 = true then ((some (([] : List Int) : List Int)).bind fun y372 => (if y372.length + t339.length < 17592186044416 then ((some (y372 ++ t339 : List Int)).bind fun y375 => (if y375.length + t340.length < 17592186044416 then ((laws_tSame.f kj51 (y375 ++ t340) t336).bind fun t381 => (if t381 = true then (if 1 + t367.size ≤ 9223372036854775807 then (if (1 + t367.size) + 1 ≤ 9223372036854775807 then (if (1 + t367.size + 1) + t369.size ≤ 9223372036854775807 then (if (1 + t367.size + 1 + t369.size) + 1 ≤ 9223372036854775807 then (some (t355.toList == (((((⟨#[91]⟩ : ByteArray) ++ t367) ++ (⟨#[44]⟩ : ByteArray)) ++ t369) ++ (⟨#[93]⟩ : ByteArray)).toList)) else (none)) else (none)) else (none)) else (none)) else (some false))) else (none))) else (none))) else (some false))) else (some false)) else (some false)) else (some false)) = some r := by rw [if_pos rfl] at H; exact H
                                      clear H
                                      have H := H1
                                      clear H1
                                      by_cases c64 : t370 = true
                                      · subst c64
                                        have H1 : (if t363 = true then (if t365 = true then ((laws_tLess.f kj51 t339 t340).bind fun t371 => (if t371 = true then ((some (([] : List Int) : List Int)).bind fun y372 => (if y372.length + t339.length < 17592186044416 then ((some (y372 ++ t339 : List Int)).bind fun y375 => (if y375.length + t340.length < 17592186044416 then ((laws_tSame.f kj51 (y375 ++ t340) t336).bind fun t381 => (if t381 = true then (if 1 + t367.size ≤ 9223372036854775807 then (if (1 + t367.size) + 1 ≤ 9223372036854775807 then (if (1 + t367.size + 1) + t369.size ≤ 9223372036854775807 then (if (1 + t367.size + 1 + t369.size) + 1 ≤ 9223372036854775807 then (some (t355.toList == (((((⟨#[91]⟩ : ByteArray) ++ t367) ++ (⟨#[44]⟩ : ByteArray)) ++ t369) ++ (⟨#[93]⟩ : ByteArray)).toList)) else (none)) else (none)) else (none)) else (none)) else (some false))) else (none))) else (none))) else (some false))) else (some false)) else (some false)) = some r := by rw [if_pos rfl] at H; exact H
                                        clear H
                                        have H := H1
                                        clear H1
                                        by_cases c65 : t363 = true
                                        · subst c65
                                          have H1 : (if t365 = true then ((laws_tLess.f kj51 t339 t340).bind fun t371 => (if t371 = true then ((some (([] : List Int) : List Int)).bind fun y372 => (if y372.length + t339.length < 17592186044416 then ((some (y372 ++ t339 : List Int)).bind fun y375 => (if y375.length + t340.length < 17592186044416 then ((laws_tSame.f kj51 (y375 ++ t340) t336).bind fun t381 => (if t381 = true then (if 1 + t367.size ≤ 9223372036854775807 then (if (1 + t367.size) + 1 ≤ 9223372036854775807 then (if (1 + t367.size + 1) + t369.size ≤ 9223372036854775807 then (if (1 + t367.size + 1 + t369.size) + 1 ≤ 9223372036854775807 then (some (t355.toList == (((((⟨#[91]⟩ : ByteArray) ++ t367) ++ (⟨#[44]⟩ : ByteArray)) ++ t369) ++ (⟨#[93]⟩ : ByteArray)).toList)) else (none)) else (none)) else (none)) else (none)) else (some false))) else (none))) else (none))) else (some false))) else (some false)) = some r := by rw [if_pos rfl] at H; exact H
                                          clear H
                                          have H := H1
                                          clear H1
                                          by_cases c66 : t365 = true
                                          · subst c66
                                            have H1 : ((laws_tLess.f kj51 t339 t340).bind fun t371 => (if t371 = true then ((some (([] : List Int) : List Int)).bind fun y372 => (if y372.length + t339.length < 17592186044416 then ((some (y372 ++ t339 : List Int)).bind fun y375 => (if y375.length + t340.length < 17592186044416 then ((laws_tSame.f kj51 (y375 ++ t340) t336).bind fun t381 => (if t381 = true then (if 1 + t367.size ≤ 9223372036854775807 then (if (1 + t367.size) + 1 ≤ 9223372036854775807 then (if (1 + t367.size + 1) + t369.size ≤ 9223372036854775807 then (if (1 + t367.size + 1 + t369.size) + 1 ≤ 9223372036854775807 then (some (t355.toList == (((((⟨#[91]⟩ : ByteArray) ++ t367) ++ (⟨#[44]⟩ : ByteArray)) ++ t369) ++ (⟨#[93]⟩ : ByteArray)).toList)) else (none)) else (none)) else (none)) else (none)) else (some false))) else (none))) else (none))) else (some false))) = some r := by rw [if_pos rfl] at H; exact H
                                            clear H
                                            have H := H1
                                            clear H1
                                            replace H := Option.bind_eq_some_iff.mp H
                                            obtain ⟨t371, A670, H⟩ := H
                                            replace H : (if t371 = true then ((some (([] : List Int) : List Int)).bind fun y372 => (if y372.length + t339.length < 17592186044416 then ((some (y372 ++ t339 : List Int)).bind fun y375 => (if y375.length + t340.length < 17592186044416 then ((laws_tSame.f kj51 (y375 ++ t340) t336).bind fun t381 => (if t381 = true then (if 1 + t367.size ≤ 9223372036854775807 then (if (1 + t367.size) + 1 ≤ 9223372036854775807 then (if (1 + t367.size + 1) + t369.size ≤ 9223372036854775807 then (if (1 + t367.size + 1 + t369.size) + 1 ≤ 9223372036854775807 then (some (t355.toList == (((((⟨#[91]⟩ : ByteArray) ++ t367) ++ (⟨#[44]⟩ : ByteArray)) ++ t369) ++ (⟨#[93]⟩ : ByteArray)).toList)) else (none)) else (none)) else (none)) else (none)) else (some false))) else (none))) else (none))) else (some false)) = some r := H
                                            have A67 := Aside0.mk A670
                                            clear A670
                                            by_cases c68 : t371 = true
                                            · subst c68
                                              have H1 : ((some (([] : List Int) : List Int)).bind fun y372 => (if y372.length + t339.length < 17592186044416 then ((some (y372 ++ t339 : List Int)).bind fun y375 => (if y375.length + t340.length < 17592186044416 then ((laws_tSame.f kj51 (y375 ++ t340) t336).bind fun t381 => (if t381 = true then (if 1 + t367.size ≤ 9223372036854775807 then (if (1 + t367.size) + 1 ≤ 9223372036854775807 then (if (1 + t367.size + 1) + t369.size ≤ 9223372036854775807 then (if (1 + t367.size + 1 + t369.size) + 1 ≤ 9223372036854775807 then (some (t355.toList == (((((⟨#[91]⟩ : ByteArray) ++ t367) ++ (⟨#[44]⟩ : ByteArray)) ++ t369) ++ (⟨#[93]⟩ : ByteArray)).toList)) else (none)) else (none)) else (none)) else (none)) else (some false))) else (none))) else (none))) = some r := by rw [if_pos rfl] at H; exact H
                                              clear H
                                              have H := H1
                                              clear H1
                                              obtain ⟨y372, hy372⟩ : ∃ y_ : List Int, y_ = (([] : List Int)) := ⟨_, rfl⟩
                                              replace H : (if y372.length + t339.length < 17592186044416 then ((some (y372 ++ t339 : List Int)).bind fun y375 => (if y375.length + t340.length < 17592186044416 then ((laws_tSame.f kj51 (y375 ++ t340) t336).bind fun t381 => (if t381 = true then (if 1 + t367.size ≤ 9223372036854775807 then (if (1 + t367.size) + 1 ≤ 9223372036854775807 then (if (1 + t367.size + 1) + t369.size ≤ 9223372036854775807 then (if (1 + t367.size + 1 + t369.size) + 1 ≤ 9223372036854775807 then (some (t355.toList == (((((⟨#[91]⟩ : ByteArray) ++ t367) ++ (⟨#[44]⟩ : ByteArray)) ++ t369) ++ (⟨#[93]⟩ : ByteArray)).toList)) else (none)) else (none)) else (none)) else (none)) else (some false))) else (none))) else (none)) = some r := by first | (rw [hy372]; with_reducible exact H) | (have H2_ := (Option.bind_some _ _).symm.trans H; rw [hy372]; with_reducible exact H2_) | (have H2_ := (Option.bind_some _ _).symm.trans H; with_reducible exact H2_) | with_reducible exact H | (rw [hy372]; exact H) | exact H
                                              have Ny372 := Aside0.mk hy372
                                              clear hy372
                                              by_cases c69 : y372.length + t339.length < 17592186044416
                                              · rw [if_pos c69] at H
                                                have LMc69 := Aside0.mk c69
                                                clear c69
                                                obtain ⟨y375, hy375⟩ : ∃ y_ : List Int, y_ = (y372 ++ t339) := ⟨_, rfl⟩
                                                replace H : (if y375.length + t340.length < 17592186044416 then ((laws_tSame.f kj51 (y375 ++ t340) t336).bind fun t381 => (if t381 = true then (if 1 + t367.size ≤ 9223372036854775807 then (if (1 + t367.size) + 1 ≤ 9223372036854775807 then (if (1 + t367.size + 1) + t369.size ≤ 9223372036854775807 then (if (1 + t367.size + 1 + t369.size) + 1 ≤ 9223372036854775807 then (some (t355.toList == (((((⟨#[91]⟩ : ByteArray) ++ t367) ++ (⟨#[44]⟩ : ByteArray)) ++ t369) ++ (⟨#[93]⟩ : ByteArray)).toList)) else (none)) else (none)) else (none)) else (none)) else (some false))) else (none)) = some r := by first | (rw [hy375]; with_reducible exact H) | (have H2_ := (Option.bind_some _ _).symm.trans H; rw [hy375]; with_reducible exact H2_) | (have H2_ := (Option.bind_some _ _).symm.trans H; with_reducible exact H2_) | with_reducible exact H | (rw [hy375]; exact H) | exact H
                                                have Ny375 := Aside0.mk hy375
                                                clear hy375
                                                by_cases c70 : y375.length + t340.length < 17592186044416
                                                · rw [if_pos c70] at H
                                                  have LMc70 := Aside0.mk c70
                                                  clear c70
                                                  obtain ⟨y378, hy378⟩ : ∃ y_ : List Int, y_ = (y375 ++ t340) := ⟨_, rfl⟩
                                                  replace H : ((laws_tSame.f kj51 y378 t336).bind fun t381 => (if t381 = true then (if 1 + t367.size ≤ 9223372036854775807 then (if (1 + t367.size) + 1 ≤ 9223372036854775807 then (if (1 + t367.size + 1) + t369.size ≤ 9223372036854775807 then (if (1 + t367.size + 1 + t369.size) + 1 ≤ 9223372036854775807 then (some (t355.toList == (((((⟨#[91]⟩ : ByteArray) ++ t367) ++ (⟨#[44]⟩ : ByteArray)) ++ t369) ++ (⟨#[93]⟩ : ByteArray)).toList)) else (none)) else (none)) else (none)) else (none)) else (some false))) = some r := by first | (rw [hy378]; with_reducible exact H) | (have H2_ := (Option.bind_some _ _).symm.trans H; rw [hy378]; with_reducible exact H2_) | (have H2_ := (Option.bind_some _ _).symm.trans H; with_reducible exact H2_) | with_reducible exact H | (rw [hy378]; exact H) | exact H
                                                  have Ny378 := Aside0.mk hy378
                                                  clear hy378
                                                  replace H := Option.bind_eq_some_iff.mp H
                                                  obtain ⟨t381, A710, H⟩ := H
                                                  replace H : (if t381 = true then (if 1 + t367.size ≤ 9223372036854775807 then (if (1 + t367.size) + 1 ≤ 9223372036854775807 then (if (1 + t367.size + 1) + t369.size ≤ 9223372036854775807 then (if (1 + t367.size + 1 + t369.size) + 1 ≤ 9223372036854775807 then (some (t355.toList == (((((⟨#[91]⟩ : ByteArray) ++ t367) ++ (⟨#[44]⟩ : ByteArray)) ++ t369) ++ (⟨#[93]⟩ : ByteArray)).toList)) else (none)) else (none)) else (none)) else (none)) else (some false)) = some r := H
                                                  have A71 := Aside0.mk A710
                                                  clear A710
                                                  by_cases c72 : t381 = true
                                                  · subst c72
                                                    have H1 : (if 1 + t367.size ≤ 9223372036854775807 then (if (1 + t367.size) + 1 ≤ 9223372036854775807 then (if (1 + t367.size + 1) + t369.size ≤ 9223372036854775807 then (if (1 + t367.size + 1 + t369.size) + 1 ≤ 9223372036854775807 then (some (t355.toList == (((((⟨#[91]⟩ : ByteArray) ++ t367) ++ (⟨#[44]⟩ : ByteArray)) ++ t369) ++ (⟨#[93]⟩ : ByteArray)).toList)) else (none)) else (none)) else (none)) else (none)) = some r := by rw [if_pos rfl] at H; exact H
                                                    clear H
                                                    have H := H1
                                                    clear H1
                                                    by_cases c73 : 1 + t367.size ≤ 9223372036854775807
                                                    · rw [if_pos c73] at H
                                                      have c73b0 := eq_true c73
                                                      have c73b1 : decide (1 + t367.size ≤ 9223372036854775807) = true := decide_eq_true c73
                                                      try have c73b2 : (9223372036854775807 < 1 + t367.size) = False := eq_false (Nat.not_lt.2 c73)
                                                      by_cases c74 : (1 + t367.size) + 1 ≤ 9223372036854775807
                                                      · rw [if_pos c74] at H
                                                        have c74b0 := eq_true c74
                                                        have c74b1 : decide ((1 + t367.size) + 1 ≤ 9223372036854775807) = true := decide_eq_true c74
                                                        try have c74b2 : (9223372036854775807 < (1 + t367.size) + 1) = False := eq_false (Nat.not_lt.2 c74)
                                                        by_cases c75 : (1 + t367.size + 1) + t369.size ≤ 9223372036854775807
                                                        · rw [if_pos c75] at H
                                                          have c75b0 := eq_true c75
                                                          have c75b1 : decide ((1 + t367.size + 1) + t369.size ≤ 9223372036854775807) = true := decide_eq_true c75
                                                          try have c75b2 : (9223372036854775807 < (1 + t367.size + 1) + t369.size) = False := eq_false (Nat.not_lt.2 c75)
                                                          by_cases c76 : (1 + t367.size + 1 + t369.size) + 1 ≤ 9223372036854775807
                                                          · as_aux_lemma =>
                                                              rw [if_pos c76] at H
                                                              have c76b0 := eq_true c76
                                                              have c76b1 : decide ((1 + t367.size + 1 + t369.size) + 1 ≤ 9223372036854775807) = true := decide_eq_true c76
                                                              try have c76b2 : (9223372036854775807 < (1 + t367.size + 1 + t369.size) + 1) = False := eq_false (Nat.not_lt.2 c76)
                                                              obtain rfl := Option.some.inj H
                                                              obtain ⟨Ao77, co77, eo77⟩ := Kd.R_slice HO_6.out
                                                              subst eo77
                                                              go_wp2_with (first | ((with_reducible refine gate_callee (f := 20) rfl ?_); refine goesL_ (some 153) rfl rfl Try.func20 (by kernel_rfl) rfl #[.slice Ao77 t339.length co77] rfl (by (try simp only [List.map_toArray, List.map_cons, List.map_nil]); first | done | rfl | (simp only [List.length_drop, List.length_take]; rfl)) ?_; (with_reducible refine (impl_IsLyndon.calls kj51 _ _ t339 true true _ ?side1 ?side2 A57.out).mono ?_); (case side1 => repeat (first | exact (Kd.R_reads' HO_6.out).2.2 | (with_reducible refine Kd.C_alloc ?_ _) | (with_reducible refine Kd.C_drewN ?_ _) | (with_reducible refine Kd.C_drew ?_))); (case side2 => exact (Kd.R_reads' HO_6.out).2.1); rintro e w78 ⟨rfl, hb⟩; refine ⟨_, rfl, ?_⟩; have n0_ := Aside0.mk (Kd.R_below (by (with_reducible repeat (first | apply Kd.R_alloc | apply Kd.R_drewN | apply Kd.R_drew)); (first | exact HO_5.out | (have hz_ := HO_5.out; (try simp only [ob_] at hz_); (try simp only [ob_]); exact hz_))) hb); have n1_ := Aside0.mk (Kd.R_below (by (with_reducible repeat (first | apply Kd.R_alloc | apply Kd.R_drewN | apply Kd.R_drew)); (first | exact HO_6.out | (have hz_ := HO_6.out; (try simp only [ob_] at hz_); (try simp only [ob_]); exact hz_))) hb); have n2_ := Aside0.mk (Kd.R_below (by (with_reducible repeat (first | apply Kd.R_alloc | apply Kd.R_drewN | apply Kd.R_drew)); (first | exact HO_7.out | (have hz_ := HO_7.out; (try simp only [ob_] at hz_); (try simp only [ob_]); exact hz_))) hb); have n3_ := Aside0.mk (below_step (by repeat (first | (with_reducible first | exact HB.out | apply below_alloc | apply pw_below_drewN | apply below_drew1) | exact HB.out)) hb); clear HO_5; clear HO_6; clear HO_7; clear HB; have HO_5 := n0_; have HO_6 := n1_; have HO_7 := n2_; have HB := n3_; clear n0_ n1_ n2_ n3_; (try clear hb); (try clear hb2); (try clear hk); (try clear hi); obtain ⟨Ao79, co79, eo79⟩ := Kd.R_slice HO_7.out; subst eo79) | ((with_reducible refine gate_callee (f := 20) rfl ?_); refine goesL_ (some 158) rfl rfl Try.func20 (by kernel_rfl) rfl #[.slice Ao79 t340.length co79] rfl (by (try simp only [List.map_toArray, List.map_cons, List.map_nil]); first | done | rfl | (simp only [List.length_drop, List.length_take]; rfl)) ?_; (with_reducible refine (impl_IsLyndon.calls kj51 _ _ t340 true true _ ?side1 ?side2 A58.out).mono ?_); (case side1 => repeat (first | exact (Kd.R_reads' HO_7.out).2.2 | (with_reducible refine Kd.C_alloc ?_ _) | (with_reducible refine Kd.C_drewN ?_ _) | (with_reducible refine Kd.C_drew ?_))); (case side2 => exact (Kd.R_reads' HO_7.out).2.1); rintro e w80 ⟨rfl, hb⟩; refine ⟨_, rfl, ?_⟩; have n0_ := Aside0.mk (Kd.R_below (by (with_reducible repeat (first | apply Kd.R_alloc | apply Kd.R_drewN | apply Kd.R_drew)); (first | exact HO_5.out | (have hz_ := HO_5.out; (try simp only [ob_] at hz_); (try simp only [ob_]); exact hz_))) hb); have n1_ := Aside0.mk (Kd.R_below (by (with_reducible repeat (first | apply Kd.R_alloc | apply Kd.R_drewN | apply Kd.R_drew)); (first | exact HO_6.out | (have hz_ := HO_6.out; (try simp only [ob_] at hz_); (try simp only [ob_]); exact hz_))) hb); have n2_ := Aside0.mk (Kd.R_below (by (with_reducible repeat (first | apply Kd.R_alloc | apply Kd.R_drewN | apply Kd.R_drew)); (first | exact HO_7.out | (have hz_ := HO_7.out; (try simp only [ob_] at hz_); (try simp only [ob_]); exact hz_))) hb); have n3_ := Aside0.mk (below_step (by repeat (first | (with_reducible first | exact HB.out | apply below_alloc | apply pw_below_drewN | apply below_drew1) | exact HB.out)) hb); clear HO_5; clear HO_6; clear HO_7; clear HB; have HO_5 := n0_; have HO_6 := n1_; have HO_7 := n2_; have HB := n3_; clear n0_ n1_ n2_ n3_; (try clear hb); (try clear hb2); (try clear hk); (try clear hi)) | ((with_reducible refine gate_callee (f := 42) rfl ?_); refine goesL_ (some 163) rfl rfl Try.func42 (by kernel_rfl) rfl #[.slice Ao77 t339.length co77] rfl (by (try simp only [List.map_toArray, List.map_cons, List.map_nil]); first | done | rfl | (simp only [List.length_drop, List.length_take]; rfl)) ?_; (with_reducible refine (impl_BracketText.calls kj51 _ _ t339 t367 true _ ?side1 ?side2 A59.out).mono ?_); (case side1 => repeat (first | exact (Kd.R_reads' HO_6.out).2.2 | (with_reducible refine Kd.C_alloc ?_ _) | (with_reducible refine Kd.C_drewN ?_ _) | (with_reducible refine Kd.C_drew ?_))); (case side2 => exact (Kd.R_reads' HO_6.out).2.1); rintro e w81 ⟨rfl, hb⟩; refine ⟨_, rfl, ?_⟩; have n0_ := Aside0.mk (Kd.R_below (by (with_reducible repeat (first | apply Kd.R_alloc | apply Kd.R_drewN | apply Kd.R_drew)); (first | exact HO_5.out | (have hz_ := HO_5.out; (try simp only [ob_] at hz_); (try simp only [ob_]); exact hz_))) hb); have n1_ := Aside0.mk (Kd.R_below (by (with_reducible repeat (first | apply Kd.R_alloc | apply Kd.R_drewN | apply Kd.R_drew)); (first | exact HO_6.out | (have hz_ := HO_6.out; (try simp only [ob_] at hz_); (try simp only [ob_]); exact hz_))) hb); have n2_ := Aside0.mk (Kd.R_below (by (with_reducible repeat (first | apply Kd.R_alloc | apply Kd.R_drewN | apply Kd.R_drew)); (first | exact HO_7.out | (have hz_ := HO_7.out; (try simp only [ob_] at hz_); (try simp only [ob_]); exact hz_))) hb); have n3_ := Aside0.mk (below_step (by repeat (first | (with_reducible first | exact HB.out | apply below_alloc | apply pw_below_drewN | apply below_drew1) | exact HB.out)) hb); clear HO_5; clear HO_6; clear HO_7; clear HB; have HO_5 := n0_; have HO_6 := n1_; have HO_7 := n2_; have HB := n3_; clear n0_ n1_ n2_ n3_; (try clear hb); (try clear hb2); (try clear hk); (try clear hi)) | ((with_reducible refine gate_callee (f := 42) rfl ?_); refine goesL_ (some 168) rfl rfl Try.func42 (by kernel_rfl) rfl #[.slice Ao79 t340.length co79] rfl (by (try simp only [List.map_toArray, List.map_cons, List.map_nil]); first | done | rfl | (simp only [List.length_drop, List.length_take]; rfl)) ?_; (with_reducible refine (impl_BracketText.calls kj51 _ _ t340 t369 true _ ?side1 ?side2 A60.out).mono ?_); (case side1 => repeat (first | exact (Kd.R_reads' HO_7.out).2.2 | (with_reducible refine Kd.C_alloc ?_ _) | (with_reducible refine Kd.C_drewN ?_ _) | (with_reducible refine Kd.C_drew ?_))); (case side2 => exact (Kd.R_reads' HO_7.out).2.1); rintro e w82 ⟨rfl, hb⟩; refine ⟨_, rfl, ?_⟩; have n0_ := Aside0.mk (Kd.R_below (by (with_reducible repeat (first | apply Kd.R_alloc | apply Kd.R_drewN | apply Kd.R_drew)); (first | exact HO_5.out | (have hz_ := HO_5.out; (try simp only [ob_] at hz_); (try simp only [ob_]); exact hz_))) hb); have n1_ := Aside0.mk (Kd.R_below (by (with_reducible repeat (first | apply Kd.R_alloc | apply Kd.R_drewN | apply Kd.R_drew)); (first | exact HO_6.out | (have hz_ := HO_6.out; (try simp only [ob_] at hz_); (try simp only [ob_]); exact hz_))) hb); have n2_ := Aside0.mk (Kd.R_below (by (with_reducible repeat (first | apply Kd.R_alloc | apply Kd.R_drewN | apply Kd.R_drew)); (first | exact HO_7.out | (have hz_ := HO_7.out; (try simp only [ob_] at hz_); (try simp only [ob_]); exact hz_))) hb); have n3_ := Aside0.mk (below_step (by repeat (first | (with_reducible first | exact HB.out | apply below_alloc | apply pw_below_drewN | apply below_drew1) | exact HB.out)) hb); clear HO_5; clear HO_6; clear HO_7; clear HB; have HO_5 := n0_; have HO_6 := n1_; have HO_7 := n2_; have HB := n3_; clear n0_ n1_ n2_ n3_; (try clear hb); (try clear hb2); (try clear hk); (try clear hi)) | (go_at_call 21; (with_reducible refine (laws_tLess.calls kj51 _ _ t339 _ _ t340 true _ ?side1 ?side2 ?side3 ?side4 A67.out).mono ?_); (case side1 => repeat (first | exact (Kd.R_reads' HO_6.out).2.2 | (with_reducible refine Kd.C_alloc ?_ _) | (with_reducible refine Kd.C_drewN ?_ _) | (with_reducible refine Kd.C_drew ?_))); (case side2 => exact (Kd.R_reads' HO_6.out).2.1); (case side3 => repeat (first | exact (Kd.R_reads' HO_7.out).2.2 | (with_reducible refine Kd.C_alloc ?_ _) | (with_reducible refine Kd.C_drewN ?_ _) | (with_reducible refine Kd.C_drew ?_))); (case side4 => exact (Kd.R_reads' HO_7.out).2.1); rintro e w' ⟨rfl, ⟨nd, rfl⟩⟩) | ((with_reducible refine gate_dst (N := 193) rfl ?_); (try (refine gate_guard (by rfl) ?_; dsimp only)); refine Kd.R_lit (Kd.int .i64) _ 3 ?hg (N := 193) ?hd (xs := ([] : List Int)) (inner := []) (ok := fun _ => True) (okp := fun _ => True) ?hr ?hp (fun _ hk => hk) trivial (Below.refl _ _) (Nat.le_refl _) (by simp) ?_; (case hd => rfl); (case hg => rfl); (case hr => first | (go_simp; done) | (go_simp; rfl)); (case hp => exact (Reps.none _ _)); intro v373 w83 ho84 hb hg_ hnew_; clear hg_ hnew_; (first | rw [← Ny372.out] at ho84 | (simp only [Int.reduceToNat] at ho84; rw [← Ny372.out] at ho84)); have n0_ := Aside0.mk (Kd.R_elder' (by (with_reducible repeat (first | apply Kd.R_alloc | apply Kd.R_drewN | apply Kd.R_drew)); (first | exact HO_5.out | (have hz_ := HO_5.out; (try simp only [ob_] at hz_); (try simp only [ob_]); exact hz_))) (Kd.R_base ho84) hb); have n1_ := Aside0.mk (Kd.R_elder' (by (with_reducible repeat (first | apply Kd.R_alloc | apply Kd.R_drewN | apply Kd.R_drew)); (first | exact HO_6.out | (have hz_ := HO_6.out; (try simp only [ob_] at hz_); (try simp only [ob_]); exact hz_))) (Kd.R_base ho84) hb); have n2_ := Aside0.mk (Kd.R_elder' (by (with_reducible repeat (first | apply Kd.R_alloc | apply Kd.R_drewN | apply Kd.R_drew)); (first | exact HO_7.out | (have hz_ := HO_7.out; (try simp only [ob_] at hz_); (try simp only [ob_]); exact hz_))) (Kd.R_base ho84) hb); have n3_ := Aside0.mk (Kd.R_lower (Kd.R_new' (Kd.R_new' (Kd.R_new' ho84 (Kd.R_lt (by (with_reducible repeat (first | apply Kd.R_alloc | apply Kd.R_drewN | apply Kd.R_drew)); (first | exact HO_5.out | (have hz_ := HO_5.out; (try simp only [ob_] at hz_); (try simp only [ob_]); exact hz_))))) (Kd.R_lt (by (with_reducible repeat (first | apply Kd.R_alloc | apply Kd.R_drewN | apply Kd.R_drew)); (first | exact HO_6.out | (have hz_ := HO_6.out; (try simp only [ob_] at hz_); (try simp only [ob_]); exact hz_))))) (Kd.R_lt (by (with_reducible repeat (first | apply Kd.R_alloc | apply Kd.R_drewN | apply Kd.R_drew)); (first | exact HO_7.out | (have hz_ := HO_7.out; (try simp only [ob_] at hz_); (try simp only [ob_]); exact hz_))))) (below_size (by repeat (first | (with_reducible first | exact HB.out | apply below_alloc | apply pw_below_drewN | apply below_drew1) | exact HB.out)))); have n4_ := Aside0.mk (below_step (by repeat (first | (with_reducible first | exact HB.out | apply below_alloc | apply pw_below_drewN | apply below_drew1) | exact HB.out)) hb); clear HO_5; clear HO_6; clear HO_7; clear HB; have HO_5 := n0_; have HO_6 := n1_; have HO_7 := n2_; have HO374 := n3_; have HB := n4_; clear n0_ n1_ n2_ n3_ n4_; clear hb ho84) | ((with_reducible refine gate_builtin (b := .append) (xs := #[.tmp 193, .tmp 194]) rfl ?_); (try (refine gate_guard (by rfl) ?_; dsimp only)); at_builtin; refine Kd.R_append_rows (Kd.int .i64) (w0 := w) w.heap.size rfl (.tmp 193) (.tmp 194) 24 3 (.int .i64 0) 8 rfl Try.underlying24 info3 rfl (by decide) (by omega) v373 y372 t339 _ _ _ (fun k_ => some k_ ≠ (.slice Ao10 t336.length co10 : Value).ownBlock ∧ some k_ ≠ (.slice Ao77 t339.length co77 : Value).ownBlock ∧ some k_ ≠ (.slice Ao79 t340.length co79 : Value).ownBlock) (fun _ => False) rfl rfl ?aO ?aR (fun _ _ h => h) (fun _ h => h.elim) ?aF ?aB ?aS ?aL ?_; (case aR => repeat (first | exact (Kd.R_reads' HO_6.out).2.2 | (with_reducible refine Kd.C_alloc ?_ _) | (with_reducible refine Kd.C_drewN ?_ _) | (with_reducible refine Kd.C_drew ?_))); (case aB => exact (by repeat (first | (with_reducible first | exact HB.out | apply below_alloc | apply pw_below_drewN | apply below_drew1) | exact HB.out))); (case aF => exact (fun k_ hk => ⟨Kd.fresh' (Kd.R_lt (by (with_reducible repeat (first | apply Kd.R_alloc | apply Kd.R_drewN | apply Kd.R_drew)); (first | exact HO_5.out | (have hz_ := HO_5.out; (try simp only [ob_] at hz_); (try simp only [ob_]); exact hz_)))) k_ hk, Kd.fresh' (Kd.R_lt (by (with_reducible repeat (first | apply Kd.R_alloc | apply Kd.R_drewN | apply Kd.R_drew)); (first | exact HO_6.out | (have hz_ := HO_6.out; (try simp only [ob_] at hz_); (try simp only [ob_]); exact hz_)))) k_ hk, Kd.fresh' (Kd.R_lt (by (with_reducible repeat (first | apply Kd.R_alloc | apply Kd.R_drewN | apply Kd.R_drew)); (first | exact HO_7.out | (have hz_ := HO_7.out; (try simp only [ob_] at hz_); (try simp only [ob_]); exact hz_)))) k_ hk⟩)); (case aO => exact (by (with_reducible repeat (first | apply Kd.R_alloc | apply Kd.R_drewN | apply Kd.R_drew)); (first | exact Kd.R_mono HO374.out (fun _ hk => ⟨hk.1.1.2, ⟨hk.1.2, hk.2⟩⟩) | (have hz_ := Kd.R_mono HO374.out (fun _ hk => ⟨hk.1.1.2, ⟨hk.1.2, hk.2⟩⟩); (try simp only [ob_] at hz_); (try simp only [ob_]); exact hz_)))); (case aS => exact (below_size (by repeat (first | (with_reducible first | exact HB.out | apply below_alloc | apply pw_below_drewN | apply below_drew1) | exact HB.out)))); (case aL => have := LMc69.out; omega); intro v376 w85 ho hb hg hat; rw [← Ny375.out] at ho; have n0_ := Aside0.mk (Kd.R_after (ok := (fun k_ => some k_ ≠ (.slice Ao77 t339.length co77 : Value).ownBlock ∧ some k_ ≠ (.slice Ao79 t340.length co79 : Value).ownBlock)) (by (with_reducible repeat (first | apply Kd.R_alloc | apply Kd.R_drewN | apply Kd.R_drew)); (first | exact HO_5.out | (have hz_ := HO_5.out; (try simp only [ob_] at hz_); (try simp only [ob_]); exact hz_))) hg hat); have n1_ := Aside0.mk (Kd.R_after (ok := (fun k_ => some k_ ≠ (.slice Ao10 t336.length co10 : Value).ownBlock ∧ some k_ ≠ (.slice Ao79 t340.length co79 : Value).ownBlock)) (by (with_reducible repeat (first | apply Kd.R_alloc | apply Kd.R_drewN | apply Kd.R_drew)); (first | exact HO_6.out | (have hz_ := HO_6.out; (try simp only [ob_] at hz_); (try simp only [ob_]); exact hz_))) hg hat); have n2_ := Aside0.mk (Kd.R_after (ok := (fun k_ => some k_ ≠ (.slice Ao10 t336.length co10 : Value).ownBlock ∧ some k_ ≠ (.slice Ao77 t339.length co77 : Value).ownBlock)) (by (with_reducible repeat (first | apply Kd.R_alloc | apply Kd.R_drewN | apply Kd.R_drew)); (first | exact HO_7.out | (have hz_ := HO_7.out; (try simp only [ob_] at hz_); (try simp only [ob_]); exact hz_))) hg hat); have n3_ := Aside0.mk (hb); have n4_ := Aside0.mk (ho); clear HO_5; clear HO_6; clear HO_7; clear HB; clear HO374; have HO_5 := n0_; have HO_6 := n1_; have HO_7 := n2_; have HB := n3_; have HO377 := n4_; clear n0_ n1_ n2_ n3_ n4_; clear ho hb hg hat) | ((with_reducible refine gate_builtin (b := .append) (xs := #[.tmp 195, .tmp 196]) rfl ?_); (try (refine gate_guard (by rfl) ?_; dsimp only)); at_builtin; refine Kd.R_append_rows (Kd.int .i64) (w0 := w) w.heap.size rfl (.tmp 195) (.tmp 196) 24 3 (.int .i64 0) 8 rfl Try.underlying24 info3 rfl (by decide) (by omega) v376 y375 t340 _ _ _ (fun k_ => some k_ ≠ (.slice Ao10 t336.length co10 : Value).ownBlock ∧ some k_ ≠ (.slice Ao77 t339.length co77 : Value).ownBlock ∧ some k_ ≠ (.slice Ao79 t340.length co79 : Value).ownBlock) (fun _ => False) rfl rfl ?aO ?aR (fun _ _ h => h) (fun _ h => h.elim) ?aF ?aB ?aS ?aL ?_; (case aR => repeat (first | exact (Kd.R_reads' HO_7.out).2.2 | (with_reducible refine Kd.C_alloc ?_ _) | (with_reducible refine Kd.C_drewN ?_ _) | (with_reducible refine Kd.C_drew ?_))); (case aB => exact (by repeat (first | (with_reducible first | exact HB.out | apply below_alloc | apply pw_below_drewN | apply below_drew1) | exact HB.out))); (case aF => exact (fun k_ hk => ⟨Kd.fresh' (Kd.R_lt (by (with_reducible repeat (first | apply Kd.R_alloc | apply Kd.R_drewN | apply Kd.R_drew)); (first | exact HO_5.out | (have hz_ := HO_5.out; (try simp only [ob_] at hz_); (try simp only [ob_]); exact hz_)))) k_ hk, Kd.fresh' (Kd.R_lt (by (with_reducible repeat (first | apply Kd.R_alloc | apply Kd.R_drewN | apply Kd.R_drew)); (first | exact HO_6.out | (have hz_ := HO_6.out; (try simp only [ob_] at hz_); (try simp only [ob_]); exact hz_)))) k_ hk, Kd.fresh' (Kd.R_lt (by (with_reducible repeat (first | apply Kd.R_alloc | apply Kd.R_drewN | apply Kd.R_drew)); (first | exact HO_7.out | (have hz_ := HO_7.out; (try simp only [ob_] at hz_); (try simp only [ob_]); exact hz_)))) k_ hk⟩)); (case aO => exact (by (with_reducible repeat (first | apply Kd.R_alloc | apply Kd.R_drewN | apply Kd.R_drew)); (first | exact HO377.out | (have hz_ := HO377.out; (try simp only [ob_] at hz_); (try simp only [ob_]); exact hz_)))); (case aS => exact (below_size (by repeat (first | (with_reducible first | exact HB.out | apply below_alloc | apply pw_below_drewN | apply below_drew1) | exact HB.out)))); (case aL => have := LMc70.out; omega); intro v379 w86 ho hb hg hat; rw [← Ny378.out] at ho; have n0_ := Aside0.mk (Kd.R_after (ok := (fun k_ => some k_ ≠ (.slice Ao77 t339.length co77 : Value).ownBlock ∧ some k_ ≠ (.slice Ao79 t340.length co79 : Value).ownBlock)) (by (with_reducible repeat (first | apply Kd.R_alloc | apply Kd.R_drewN | apply Kd.R_drew)); (first | exact HO_5.out | (have hz_ := HO_5.out; (try simp only [ob_] at hz_); (try simp only [ob_]); exact hz_))) hg hat); have n1_ := Aside0.mk (Kd.R_after (ok := (fun k_ => some k_ ≠ (.slice Ao10 t336.length co10 : Value).ownBlock ∧ some k_ ≠ (.slice Ao79 t340.length co79 : Value).ownBlock)) (by (with_reducible repeat (first | apply Kd.R_alloc | apply Kd.R_drewN | apply Kd.R_drew)); (first | exact HO_6.out | (have hz_ := HO_6.out; (try simp only [ob_] at hz_); (try simp only [ob_]); exact hz_))) hg hat); have n2_ := Aside0.mk (Kd.R_after (ok := (fun k_ => some k_ ≠ (.slice Ao10 t336.length co10 : Value).ownBlock ∧ some k_ ≠ (.slice Ao77 t339.length co77 : Value).ownBlock)) (by (with_reducible repeat (first | apply Kd.R_alloc | apply Kd.R_drewN | apply Kd.R_drew)); (first | exact HO_7.out | (have hz_ := HO_7.out; (try simp only [ob_] at hz_); (try simp only [ob_]); exact hz_))) hg hat); have n3_ := Aside0.mk (hb); have n4_ := Aside0.mk (ho); clear HO_5; clear HO_6; clear HO_7; clear HB; clear HO377; have HO_5 := n0_; have HO_6 := n1_; have HO_7 := n2_; have HB := n3_; have HO380 := n4_; clear n0_ n1_ n2_ n3_ n4_; clear ho hb hg hat; obtain ⟨Ao87, co87, eo87⟩ := Kd.R_slice HO380.out; subst eo87) | (go_at_call 22; (with_reducible refine (laws_tSame.calls kj51 _ _ y378 _ _ t336 true _ ?side1 ?side2 ?side3 ?side4 A71.out).mono ?_); (case side1 => repeat (first | exact (Kd.R_reads' HO380.out).2.2 | (with_reducible refine Kd.C_alloc ?_ _) | (with_reducible refine Kd.C_drewN ?_ _) | (with_reducible refine Kd.C_drew ?_))); (case side2 => exact (Kd.R_reads' HO380.out).2.1); (case side3 => repeat (first | exact (Kd.R_reads' HO_5.out).2.2 | (with_reducible refine Kd.C_alloc ?_ _) | (with_reducible refine Kd.C_drewN ?_ _) | (with_reducible refine Kd.C_drew ?_))); (case side4 => exact (Kd.R_reads' HO_5.out).2.1); rintro e w' ⟨rfl, ⟨nd, rfl⟩⟩))
                                                              go_ret
                                                              exact ⟨by first | rfl | (simp [errW_none, errW_some] <;> rfl) | (simp [*, errW_none, errW_some] <;> rfl), by repeat (first | (with_reducible first | exact HB.out | apply below_alloc | apply pw_below_drewN | apply below_drew1) | exact HB.out)⟩
                                                          · rw [if_neg c76] at H
                                                            exact absurd H (by simp)
                                                        · rw [if_neg c75] at H
                                                          exact absurd H (by simp)
                                                      · rw [if_neg c74] at H
                                                        exact absurd H (by simp)
                                                    · rw [if_neg c73] at H
                                                      exact absurd H (by simp)
                                                  · as_aux_lemma =>
                                                      replace c72 := Bool.eq_false_iff.mpr c72
                                                      subst c72
                                                      have H1 : (some false) = some r := by rw [if_neg (show ¬ (false = true) by decide)] at H; exact H
                                                      clear H
                                                      have H := H1
                                                      clear H1
                                                      obtain rfl := Option.some.inj H
                                                      obtain ⟨Ao88, co88, eo88⟩ := Kd.R_slice HO_6.out
                                                      subst eo88
                                                      go_wp2_with (first | ((with_reducible refine gate_callee (f := 20) rfl ?_); refine goesL_ (some 153) rfl rfl Try.func20 (by kernel_rfl) rfl #[.slice Ao88 t339.length co88] rfl (by (try simp only [List.map_toArray, List.map_cons, List.map_nil]); first | done | rfl | (simp only [List.length_drop, List.length_take]; rfl)) ?_; (with_reducible refine (impl_IsLyndon.calls kj51 _ _ t339 true true _ ?side1 ?side2 A57.out).mono ?_); (case side1 => repeat (first | exact (Kd.R_reads' HO_6.out).2.2 | (with_reducible refine Kd.C_alloc ?_ _) | (with_reducible refine Kd.C_drewN ?_ _) | (with_reducible refine Kd.C_drew ?_))); (case side2 => exact (Kd.R_reads' HO_6.out).2.1); rintro e w89 ⟨rfl, hb⟩; refine ⟨_, rfl, ?_⟩; have n0_ := Aside0.mk (Kd.R_below (by (with_reducible repeat (first | apply Kd.R_alloc | apply Kd.R_drewN | apply Kd.R_drew)); (first | exact HO_5.out | (have hz_ := HO_5.out; (try simp only [ob_] at hz_); (try simp only [ob_]); exact hz_))) hb); have n1_ := Aside0.mk (Kd.R_below (by (with_reducible repeat (first | apply Kd.R_alloc | apply Kd.R_drewN | apply Kd.R_drew)); (first | exact HO_6.out | (have hz_ := HO_6.out; (try simp only [ob_] at hz_); (try simp only [ob_]); exact hz_))) hb); have n2_ := Aside0.mk (Kd.R_below (by (with_reducible repeat (first | apply Kd.R_alloc | apply Kd.R_drewN | apply Kd.R_drew)); (first | exact HO_7.out | (have hz_ := HO_7.out; (try simp only [ob_] at hz_); (try simp only [ob_]); exact hz_))) hb); have n3_ := Aside0.mk (below_step (by repeat (first | (with_reducible first | exact HB.out | apply below_alloc | apply pw_below_drewN | apply below_drew1) | exact HB.out)) hb); clear HO_5; clear HO_6; clear HO_7; clear HB; have HO_5 := n0_; have HO_6 := n1_; have HO_7 := n2_; have HB := n3_; clear n0_ n1_ n2_ n3_; (try clear hb); (try clear hb2); (try clear hk); (try clear hi); obtain ⟨Ao90, co90, eo90⟩ := Kd.R_slice HO_7.out; subst eo90) | ((with_reducible refine gate_callee (f := 20) rfl ?_); refine goesL_ (some 158) rfl rfl Try.func20 (by kernel_rfl) rfl #[.slice Ao90 t340.length co90] rfl (by (try simp only [List.map_toArray, List.map_cons, List.map_nil]); first | done | rfl | (simp only [List.length_drop, List.length_take]; rfl)) ?_; (with_reducible refine (impl_IsLyndon.calls kj51 _ _ t340 true true _ ?side1 ?side2 A58.out).mono ?_); (case side1 => repeat (first | exact (Kd.R_reads' HO_7.out).2.2 | (with_reducible refine Kd.C_alloc ?_ _) | (with_reducible refine Kd.C_drewN ?_ _) | (with_reducible refine Kd.C_drew ?_))); (case side2 => exact (Kd.R_reads' HO_7.out).2.1); rintro e w91 ⟨rfl, hb⟩; refine ⟨_, rfl, ?_⟩; have n0_ := Aside0.mk (Kd.R_below (by (with_reducible repeat (first | apply Kd.R_alloc | apply Kd.R_drewN | apply Kd.R_drew)); (first | exact HO_5.out | (have hz_ := HO_5.out; (try simp only [ob_] at hz_); (try simp only [ob_]); exact hz_))) hb); have n1_ := Aside0.mk (Kd.R_below (by (with_reducible repeat (first | apply Kd.R_alloc | apply Kd.R_drewN | apply Kd.R_drew)); (first | exact HO_6.out | (have hz_ := HO_6.out; (try simp only [ob_] at hz_); (try simp only [ob_]); exact hz_))) hb); have n2_ := Aside0.mk (Kd.R_below (by (with_reducible repeat (first | apply Kd.R_alloc | apply Kd.R_drewN | apply Kd.R_drew)); (first | exact HO_7.out | (have hz_ := HO_7.out; (try simp only [ob_] at hz_); (try simp only [ob_]); exact hz_))) hb); have n3_ := Aside0.mk (below_step (by repeat (first | (with_reducible first | exact HB.out | apply below_alloc | apply pw_below_drewN | apply below_drew1) | exact HB.out)) hb); clear HO_5; clear HO_6; clear HO_7; clear HB; have HO_5 := n0_; have HO_6 := n1_; have HO_7 := n2_; have HB := n3_; clear n0_ n1_ n2_ n3_; (try clear hb); (try clear hb2); (try clear hk); (try clear hi)) | ((with_reducible refine gate_callee (f := 42) rfl ?_); refine goesL_ (some 163) rfl rfl Try.func42 (by kernel_rfl) rfl #[.slice Ao88 t339.length co88] rfl (by (try simp only [List.map_toArray, List.map_cons, List.map_nil]); first | done | rfl | (simp only [List.length_drop, List.length_take]; rfl)) ?_; (with_reducible refine (impl_BracketText.calls kj51 _ _ t339 t367 true _ ?side1 ?side2 A59.out).mono ?_); (case side1 => repeat (first | exact (Kd.R_reads' HO_6.out).2.2 | (with_reducible refine Kd.C_alloc ?_ _) | (with_reducible refine Kd.C_drewN ?_ _) | (with_reducible refine Kd.C_drew ?_))); (case side2 => exact (Kd.R_reads' HO_6.out).2.1); rintro e w92 ⟨rfl, hb⟩; refine ⟨_, rfl, ?_⟩; have n0_ := Aside0.mk (Kd.R_below (by (with_reducible repeat (first | apply Kd.R_alloc | apply Kd.R_drewN | apply Kd.R_drew)); (first | exact HO_5.out | (have hz_ := HO_5.out; (try simp only [ob_] at hz_); (try simp only [ob_]); exact hz_))) hb); have n1_ := Aside0.mk (Kd.R_below (by (with_reducible repeat (first | apply Kd.R_alloc | apply Kd.R_drewN | apply Kd.R_drew)); (first | exact HO_6.out | (have hz_ := HO_6.out; (try simp only [ob_] at hz_); (try simp only [ob_]); exact hz_))) hb); have n2_ := Aside0.mk (Kd.R_below (by (with_reducible repeat (first | apply Kd.R_alloc | apply Kd.R_drewN | apply Kd.R_drew)); (first | exact HO_7.out | (have hz_ := HO_7.out; (try simp only [ob_] at hz_); (try simp only [ob_]); exact hz_))) hb); have n3_ := Aside0.mk (below_step (by repeat (first | (with_reducible first | exact HB.out | apply below_alloc | apply pw_below_drewN | apply below_drew1) | exact HB.out)) hb); clear HO_5; clear HO_6; clear HO_7; clear HB; have HO_5 := n0_; have HO_6 := n1_; have HO_7 := n2_; have HB := n3_; clear n0_ n1_ n2_ n3_; (try clear hb); (try clear hb2); (try clear hk); (try clear hi)) | ((with_reducible refine gate_callee (f := 42) rfl ?_); refine goesL_ (some 168) rfl rfl Try.func42 (by kernel_rfl) rfl #[.slice Ao90 t340.length co90] rfl (by (try simp only [List.map_toArray, List.map_cons, List.map_nil]); first | done | rfl | (simp only [List.length_drop, List.length_take]; rfl)) ?_; (with_reducible refine (impl_BracketText.calls kj51 _ _ t340 t369 true _ ?side1 ?side2 A60.out).mono ?_); (case side1 => repeat (first | exact (Kd.R_reads' HO_7.out).2.2 | (with_reducible refine Kd.C_alloc ?_ _) | (with_reducible refine Kd.C_drewN ?_ _) | (with_reducible refine Kd.C_drew ?_))); (case side2 => exact (Kd.R_reads' HO_7.out).2.1); rintro e w93 ⟨rfl, hb⟩; refine ⟨_, rfl, ?_⟩; have n0_ := Aside0.mk (Kd.R_below (by (with_reducible repeat (first | apply Kd.R_alloc | apply Kd.R_drewN | apply Kd.R_drew)); (first | exact HO_5.out | (have hz_ := HO_5.out; (try simp only [ob_] at hz_); (try simp only [ob_]); exact hz_))) hb); have n1_ := Aside0.mk (Kd.R_below (by (with_reducible repeat (first | apply Kd.R_alloc | apply Kd.R_drewN | apply Kd.R_drew)); (first | exact HO_6.out | (have hz_ := HO_6.out; (try simp only [ob_] at hz_); (try simp only [ob_]); exact hz_))) hb); have n2_ := Aside0.mk (Kd.R_below (by (with_reducible repeat (first | apply Kd.R_alloc | apply Kd.R_drewN | apply Kd.R_drew)); (first | exact HO_7.out | (have hz_ := HO_7.out; (try simp only [ob_] at hz_); (try simp only [ob_]); exact hz_))) hb); have n3_ := Aside0.mk (below_step (by repeat (first | (with_reducible first | exact HB.out | apply below_alloc | apply pw_below_drewN | apply below_drew1) | exact HB.out)) hb); clear HO_5; clear HO_6; clear HO_7; clear HB; have HO_5 := n0_; have HO_6 := n1_; have HO_7 := n2_; have HB := n3_; clear n0_ n1_ n2_ n3_; (try clear hb); (try clear hb2); (try clear hk); (try clear hi)) | (go_at_call 21; (with_reducible refine (laws_tLess.calls kj51 _ _ t339 _ _ t340 true _ ?side1 ?side2 ?side3 ?side4 A67.out).mono ?_); (case side1 => repeat (first | exact (Kd.R_reads' HO_6.out).2.2 | (with_reducible refine Kd.C_alloc ?_ _) | (with_reducible refine Kd.C_drewN ?_ _) | (with_reducible refine Kd.C_drew ?_))); (case side2 => exact (Kd.R_reads' HO_6.out).2.1); (case side3 => repeat (first | exact (Kd.R_reads' HO_7.out).2.2 | (with_reducible refine Kd.C_alloc ?_ _) | (with_reducible refine Kd.C_drewN ?_ _) | (with_reducible refine Kd.C_drew ?_))); (case side4 => exact (Kd.R_reads' HO_7.out).2.1); rintro e w' ⟨rfl, ⟨nd, rfl⟩⟩) | ((with_reducible refine gate_dst (N := 193) rfl ?_); (try (refine gate_guard (by rfl) ?_; dsimp only)); refine Kd.R_lit (Kd.int .i64) _ 3 ?hg (N := 193) ?hd (xs := ([] : List Int)) (inner := []) (ok := fun _ => True) (okp := fun _ => True) ?hr ?hp (fun _ hk => hk) trivial (Below.refl _ _) (Nat.le_refl _) (by simp) ?_; (case hd => rfl); (case hg => rfl); (case hr => first | (go_simp; done) | (go_simp; rfl)); (case hp => exact (Reps.none _ _)); intro v373 w94 ho95 hb hg_ hnew_; clear hg_ hnew_; (first | rw [← Ny372.out] at ho95 | (simp only [Int.reduceToNat] at ho95; rw [← Ny372.out] at ho95)); have n0_ := Aside0.mk (Kd.R_elder' (by (with_reducible repeat (first | apply Kd.R_alloc | apply Kd.R_drewN | apply Kd.R_drew)); (first | exact HO_5.out | (have hz_ := HO_5.out; (try simp only [ob_] at hz_); (try simp only [ob_]); exact hz_))) (Kd.R_base ho95) hb); have n1_ := Aside0.mk (Kd.R_elder' (by (with_reducible repeat (first | apply Kd.R_alloc | apply Kd.R_drewN | apply Kd.R_drew)); (first | exact HO_6.out | (have hz_ := HO_6.out; (try simp only [ob_] at hz_); (try simp only [ob_]); exact hz_))) (Kd.R_base ho95) hb); have n2_ := Aside0.mk (Kd.R_elder' (by (with_reducible repeat (first | apply Kd.R_alloc | apply Kd.R_drewN | apply Kd.R_drew)); (first | exact HO_7.out | (have hz_ := HO_7.out; (try simp only [ob_] at hz_); (try simp only [ob_]); exact hz_))) (Kd.R_base ho95) hb); have n3_ := Aside0.mk (Kd.R_lower (Kd.R_new' (Kd.R_new' (Kd.R_new' ho95 (Kd.R_lt (by (with_reducible repeat (first | apply Kd.R_alloc | apply Kd.R_drewN | apply Kd.R_drew)); (first | exact HO_5.out | (have hz_ := HO_5.out; (try simp only [ob_] at hz_); (try simp only [ob_]); exact hz_))))) (Kd.R_lt (by (with_reducible repeat (first | apply Kd.R_alloc | apply Kd.R_drewN | apply Kd.R_drew)); (first | exact HO_6.out | (have hz_ := HO_6.out; (try simp only [ob_] at hz_); (try simp only [ob_]); exact hz_))))) (Kd.R_lt (by (with_reducible repeat (first | apply Kd.R_alloc | apply Kd.R_drewN | apply Kd.R_drew)); (first | exact HO_7.out | (have hz_ := HO_7.out; (try simp only [ob_] at hz_); (try simp only [ob_]); exact hz_))))) (below_size (by repeat (first | (with_reducible first | exact HB.out | apply below_alloc | apply pw_below_drewN | apply below_drew1) | exact HB.out)))); have n4_ := Aside0.mk (below_step (by repeat (first | (with_reducible first | exact HB.out | apply below_alloc | apply pw_below_drewN | apply below_drew1) | exact HB.out)) hb); clear HO_5; clear HO_6; clear HO_7; clear HB; have HO_5 := n0_; have HO_6 := n1_; have HO_7 := n2_; have HO374 := n3_; have HB := n4_; clear n0_ n1_ n2_ n3_ n4_; clear hb ho95) | ((with_reducible refine gate_builtin (b := .append) (xs := #[.tmp 193, .tmp 194]) rfl ?_); (try (refine gate_guard (by rfl) ?_; dsimp only)); at_builtin; refine Kd.R_append_rows (Kd.int .i64) (w0 := w) w.heap.size rfl (.tmp 193) (.tmp 194) 24 3 (.int .i64 0) 8 rfl Try.underlying24 info3 rfl (by decide) (by omega) v373 y372 t339 _ _ _ (fun k_ => some k_ ≠ (.slice Ao10 t336.length co10 : Value).ownBlock ∧ some k_ ≠ (.slice Ao88 t339.length co88 : Value).ownBlock ∧ some k_ ≠ (.slice Ao90 t340.length co90 : Value).ownBlock) (fun _ => False) rfl rfl ?aO ?aR (fun _ _ h => h) (fun _ h => h.elim) ?aF ?aB ?aS ?aL ?_; (case aR => repeat (first | exact (Kd.R_reads' HO_6.out).2.2 | (with_reducible refine Kd.C_alloc ?_ _) | (with_reducible refine Kd.C_drewN ?_ _) | (with_reducible refine Kd.C_drew ?_))); (case aB => exact (by repeat (first | (with_reducible first | exact HB.out | apply below_alloc | apply pw_below_drewN | apply below_drew1) | exact HB.out))); (case aF => exact (fun k_ hk => ⟨Kd.fresh' (Kd.R_lt (by (with_reducible repeat (first | apply Kd.R_alloc | apply Kd.R_drewN | apply Kd.R_drew)); (first | exact HO_5.out | (have hz_ := HO_5.out; (try simp only [ob_] at hz_); (try simp only [ob_]); exact hz_)))) k_ hk, Kd.fresh' (Kd.R_lt (by (with_reducible repeat (first | apply Kd.R_alloc | apply Kd.R_drewN | apply Kd.R_drew)); (first | exact HO_6.out | (have hz_ := HO_6.out; (try simp only [ob_] at hz_); (try simp only [ob_]); exact hz_)))) k_ hk, Kd.fresh' (Kd.R_lt (by (with_reducible repeat (first | apply Kd.R_alloc | apply Kd.R_drewN | apply Kd.R_drew)); (first | exact HO_7.out | (have hz_ := HO_7.out; (try simp only [ob_] at hz_); (try simp only [ob_]); exact hz_)))) k_ hk⟩)); (case aO => exact (by (with_reducible repeat (first | apply Kd.R_alloc | apply Kd.R_drewN | apply Kd.R_drew)); (first | exact Kd.R_mono HO374.out (fun _ hk => ⟨hk.1.1.2, ⟨hk.1.2, hk.2⟩⟩) | (have hz_ := Kd.R_mono HO374.out (fun _ hk => ⟨hk.1.1.2, ⟨hk.1.2, hk.2⟩⟩); (try simp only [ob_] at hz_); (try simp only [ob_]); exact hz_)))); (case aS => exact (below_size (by repeat (first | (with_reducible first | exact HB.out | apply below_alloc | apply pw_below_drewN | apply below_drew1) | exact HB.out)))); (case aL => have := LMc69.out; omega); intro v376 w96 ho hb hg hat; rw [← Ny375.out] at ho; have n0_ := Aside0.mk (Kd.R_after (ok := (fun k_ => some k_ ≠ (.slice Ao88 t339.length co88 : Value).ownBlock ∧ some k_ ≠ (.slice Ao90 t340.length co90 : Value).ownBlock)) (by (with_reducible repeat (first | apply Kd.R_alloc | apply Kd.R_drewN | apply Kd.R_drew)); (first | exact HO_5.out | (have hz_ := HO_5.out; (try simp only [ob_] at hz_); (try simp only [ob_]); exact hz_))) hg hat); have n1_ := Aside0.mk (Kd.R_after (ok := (fun k_ => some k_ ≠ (.slice Ao10 t336.length co10 : Value).ownBlock ∧ some k_ ≠ (.slice Ao90 t340.length co90 : Value).ownBlock)) (by (with_reducible repeat (first | apply Kd.R_alloc | apply Kd.R_drewN | apply Kd.R_drew)); (first | exact HO_6.out | (have hz_ := HO_6.out; (try simp only [ob_] at hz_); (try simp only [ob_]); exact hz_))) hg hat); have n2_ := Aside0.mk (Kd.R_after (ok := (fun k_ => some k_ ≠ (.slice Ao10 t336.length co10 : Value).ownBlock ∧ some k_ ≠ (.slice Ao88 t339.length co88 : Value).ownBlock)) (by (with_reducible repeat (first | apply Kd.R_alloc | apply Kd.R_drewN | apply Kd.R_drew)); (first | exact HO_7.out | (have hz_ := HO_7.out; (try simp only [ob_] at hz_); (try simp only [ob_]); exact hz_))) hg hat); have n3_ := Aside0.mk (hb); have n4_ := Aside0.mk (ho); clear HO_5; clear HO_6; clear HO_7; clear HB; clear HO374; have HO_5 := n0_; have HO_6 := n1_; have HO_7 := n2_; have HB := n3_; have HO377 := n4_; clear n0_ n1_ n2_ n3_ n4_; clear ho hb hg hat) | ((with_reducible refine gate_builtin (b := .append) (xs := #[.tmp 195, .tmp 196]) rfl ?_); (try (refine gate_guard (by rfl) ?_; dsimp only)); at_builtin; refine Kd.R_append_rows (Kd.int .i64) (w0 := w) w.heap.size rfl (.tmp 195) (.tmp 196) 24 3 (.int .i64 0) 8 rfl Try.underlying24 info3 rfl (by decide) (by omega) v376 y375 t340 _ _ _ (fun k_ => some k_ ≠ (.slice Ao10 t336.length co10 : Value).ownBlock ∧ some k_ ≠ (.slice Ao88 t339.length co88 : Value).ownBlock ∧ some k_ ≠ (.slice Ao90 t340.length co90 : Value).ownBlock) (fun _ => False) rfl rfl ?aO ?aR (fun _ _ h => h) (fun _ h => h.elim) ?aF ?aB ?aS ?aL ?_; (case aR => repeat (first | exact (Kd.R_reads' HO_7.out).2.2 | (with_reducible refine Kd.C_alloc ?_ _) | (with_reducible refine Kd.C_drewN ?_ _) | (with_reducible refine Kd.C_drew ?_))); (case aB => exact (by repeat (first | (with_reducible first | exact HB.out | apply below_alloc | apply pw_below_drewN | apply below_drew1) | exact HB.out))); (case aF => exact (fun k_ hk => ⟨Kd.fresh' (Kd.R_lt (by (with_reducible repeat (first | apply Kd.R_alloc | apply Kd.R_drewN | apply Kd.R_drew)); (first | exact HO_5.out | (have hz_ := HO_5.out; (try simp only [ob_] at hz_); (try simp only [ob_]); exact hz_)))) k_ hk, Kd.fresh' (Kd.R_lt (by (with_reducible repeat (first | apply Kd.R_alloc | apply Kd.R_drewN | apply Kd.R_drew)); (first | exact HO_6.out | (have hz_ := HO_6.out; (try simp only [ob_] at hz_); (try simp only [ob_]); exact hz_)))) k_ hk, Kd.fresh' (Kd.R_lt (by (with_reducible repeat (first | apply Kd.R_alloc | apply Kd.R_drewN | apply Kd.R_drew)); (first | exact HO_7.out | (have hz_ := HO_7.out; (try simp only [ob_] at hz_); (try simp only [ob_]); exact hz_)))) k_ hk⟩)); (case aO => exact (by (with_reducible repeat (first | apply Kd.R_alloc | apply Kd.R_drewN | apply Kd.R_drew)); (first | exact HO377.out | (have hz_ := HO377.out; (try simp only [ob_] at hz_); (try simp only [ob_]); exact hz_)))); (case aS => exact (below_size (by repeat (first | (with_reducible first | exact HB.out | apply below_alloc | apply pw_below_drewN | apply below_drew1) | exact HB.out)))); (case aL => have := LMc70.out; omega); intro v379 w97 ho hb hg hat; rw [← Ny378.out] at ho; have n0_ := Aside0.mk (Kd.R_after (ok := (fun k_ => some k_ ≠ (.slice Ao88 t339.length co88 : Value).ownBlock ∧ some k_ ≠ (.slice Ao90 t340.length co90 : Value).ownBlock)) (by (with_reducible repeat (first | apply Kd.R_alloc | apply Kd.R_drewN | apply Kd.R_drew)); (first | exact HO_5.out | (have hz_ := HO_5.out; (try simp only [ob_] at hz_); (try simp only [ob_]); exact hz_))) hg hat); have n1_ := Aside0.mk (Kd.R_after (ok := (fun k_ => some k_ ≠ (.slice Ao10 t336.length co10 : Value).ownBlock ∧ some k_ ≠ (.slice Ao90 t340.length co90 : Value).ownBlock)) (by (with_reducible repeat (first | apply Kd.R_alloc | apply Kd.R_drewN | apply Kd.R_drew)); (first | exact HO_6.out | (have hz_ := HO_6.out; (try simp only [ob_] at hz_); (try simp only [ob_]); exact hz_))) hg hat); have n2_ := Aside0.mk (Kd.R_after (ok := (fun k_ => some k_ ≠ (.slice Ao10 t336.length co10 : Value).ownBlock ∧ some k_ ≠ (.slice Ao88 t339.length co88 : Value).ownBlock)) (by (with_reducible repeat (first | apply Kd.R_alloc | apply Kd.R_drewN | apply Kd.R_drew)); (first | exact HO_7.out | (have hz_ := HO_7.out; (try simp only [ob_] at hz_); (try simp only [ob_]); exact hz_))) hg hat); have n3_ := Aside0.mk (hb); have n4_ := Aside0.mk (ho); clear HO_5; clear HO_6; clear HO_7; clear HB; clear HO377; have HO_5 := n0_; have HO_6 := n1_; have HO_7 := n2_; have HB := n3_; have HO380 := n4_; clear n0_ n1_ n2_ n3_ n4_; clear ho hb hg hat; obtain ⟨Ao98, co98, eo98⟩ := Kd.R_slice HO380.out; subst eo98) | (go_at_call 22; (with_reducible refine (laws_tSame.calls kj51 _ _ y378 _ _ t336 false _ ?side1 ?side2 ?side3 ?side4 A71.out).mono ?_); (case side1 => repeat (first | exact (Kd.R_reads' HO380.out).2.2 | (with_reducible refine Kd.C_alloc ?_ _) | (with_reducible refine Kd.C_drewN ?_ _) | (with_reducible refine Kd.C_drew ?_))); (case side2 => exact (Kd.R_reads' HO380.out).2.1); (case side3 => repeat (first | exact (Kd.R_reads' HO_5.out).2.2 | (with_reducible refine Kd.C_alloc ?_ _) | (with_reducible refine Kd.C_drewN ?_ _) | (with_reducible refine Kd.C_drew ?_))); (case side4 => exact (Kd.R_reads' HO_5.out).2.1); rintro e w' ⟨rfl, ⟨nd, rfl⟩⟩))
                                                      go_ret
                                                      exact ⟨by first | rfl | (simp [errW_none, errW_some] <;> rfl) | (simp [*, errW_none, errW_some] <;> rfl), by repeat (first | (with_reducible first | exact HB.out | apply below_alloc | apply pw_below_drewN | apply below_drew1) | exact HB.out)⟩
                                                · rw [if_neg c70] at H
                                                  exact absurd H (by simp)
                                              · rw [if_neg c69] at H
                                                exact absurd H (by simp)
                                            · as_aux_lemma =>
                                                replace c68 := Bool.eq_false_iff.mpr c68
                                                subst c68
                                                have H1 : (some false) = some r := by rw [if_neg (show ¬ (false = true) by decide)] at H; exact H
                                                clear H
                                                have H := H1
                                                clear H1
                                                obtain rfl := Option.some.inj H
                                                obtain ⟨Ao99, co99, eo99⟩ := Kd.R_slice HO_6.out
                                                subst eo99
                                                go_wp2_with (first | ((with_reducible refine gate_callee (f := 20) rfl ?_); refine goesL_ (some 153) rfl rfl Try.func20 (by kernel_rfl) rfl #[.slice Ao99 t339.length co99] rfl (by (try simp only [List.map_toArray, List.map_cons, List.map_nil]); first | done | rfl | (simp only [List.length_drop, List.length_take]; rfl)) ?_; (with_reducible refine (impl_IsLyndon.calls kj51 _ _ t339 true true _ ?side1 ?side2 A57.out).mono ?_); (case side1 => repeat (first | exact (Kd.R_reads' HO_6.out).2.2 | (with_reducible refine Kd.C_alloc ?_ _) | (with_reducible refine Kd.C_drewN ?_ _) | (with_reducible refine Kd.C_drew ?_))); (case side2 => exact (Kd.R_reads' HO_6.out).2.1); rintro e w100 ⟨rfl, hb⟩; refine ⟨_, rfl, ?_⟩; have n0_ := Aside0.mk (Kd.R_below (by (with_reducible repeat (first | apply Kd.R_alloc | apply Kd.R_drewN | apply Kd.R_drew)); (first | exact HO_5.out | (have hz_ := HO_5.out; (try simp only [ob_] at hz_); (try simp only [ob_]); exact hz_))) hb); have n1_ := Aside0.mk (Kd.R_below (by (with_reducible repeat (first | apply Kd.R_alloc | apply Kd.R_drewN | apply Kd.R_drew)); (first | exact HO_6.out | (have hz_ := HO_6.out; (try simp only [ob_] at hz_); (try simp only [ob_]); exact hz_))) hb); have n2_ := Aside0.mk (Kd.R_below (by (with_reducible repeat (first | apply Kd.R_alloc | apply Kd.R_drewN | apply Kd.R_drew)); (first | exact HO_7.out | (have hz_ := HO_7.out; (try simp only [ob_] at hz_); (try simp only [ob_]); exact hz_))) hb); have n3_ := Aside0.mk (below_step (by repeat (first | (with_reducible first | exact HB.out | apply below_alloc | apply pw_below_drewN | apply below_drew1) | exact HB.out)) hb); clear HO_5; clear HO_6; clear HO_7; clear HB; have HO_5 := n0_; have HO_6 := n1_; have HO_7 := n2_; have HB := n3_; clear n0_ n1_ n2_ n3_; (try clear hb); (try clear hb2); (try clear hk); (try clear hi); obtain ⟨Ao101, co101, eo101⟩ := Kd.R_slice HO_7.out; subst eo101) | ((with_reducible refine gate_callee (f := 20) rfl ?_); refine goesL_ (some 158) rfl rfl Try.func20 (by kernel_rfl) rfl #[.slice Ao101 t340.length co101] rfl (by (try simp only [List.map_toArray, List.map_cons, List.map_nil]); first | done | rfl | (simp only [List.length_drop, List.length_take]; rfl)) ?_; (with_reducible refine (impl_IsLyndon.calls kj51 _ _ t340 true true _ ?side1 ?side2 A58.out).mono ?_); (case side1 => repeat (first | exact (Kd.R_reads' HO_7.out).2.2 | (with_reducible refine Kd.C_alloc ?_ _) | (with_reducible refine Kd.C_drewN ?_ _) | (with_reducible refine Kd.C_drew ?_))); (case side2 => exact (Kd.R_reads' HO_7.out).2.1); rintro e w102 ⟨rfl, hb⟩; refine ⟨_, rfl, ?_⟩; have n0_ := Aside0.mk (Kd.R_below (by (with_reducible repeat (first | apply Kd.R_alloc | apply Kd.R_drewN | apply Kd.R_drew)); (first | exact HO_5.out | (have hz_ := HO_5.out; (try simp only [ob_] at hz_); (try simp only [ob_]); exact hz_))) hb); have n1_ := Aside0.mk (Kd.R_below (by (with_reducible repeat (first | apply Kd.R_alloc | apply Kd.R_drewN | apply Kd.R_drew)); (first | exact HO_6.out | (have hz_ := HO_6.out; (try simp only [ob_] at hz_); (try simp only [ob_]); exact hz_))) hb); have n2_ := Aside0.mk (Kd.R_below (by (with_reducible repeat (first | apply Kd.R_alloc | apply Kd.R_drewN | apply Kd.R_drew)); (first | exact HO_7.out | (have hz_ := HO_7.out; (try simp only [ob_] at hz_); (try simp only [ob_]); exact hz_))) hb); have n3_ := Aside0.mk (below_step (by repeat (first | (with_reducible first | exact HB.out | apply below_alloc | apply pw_below_drewN | apply below_drew1) | exact HB.out)) hb); clear HO_5; clear HO_6; clear HO_7; clear HB; have HO_5 := n0_; have HO_6 := n1_; have HO_7 := n2_; have HB := n3_; clear n0_ n1_ n2_ n3_; (try clear hb); (try clear hb2); (try clear hk); (try clear hi)) | ((with_reducible refine gate_callee (f := 42) rfl ?_); refine goesL_ (some 163) rfl rfl Try.func42 (by kernel_rfl) rfl #[.slice Ao99 t339.length co99] rfl (by (try simp only [List.map_toArray, List.map_cons, List.map_nil]); first | done | rfl | (simp only [List.length_drop, List.length_take]; rfl)) ?_; (with_reducible refine (impl_BracketText.calls kj51 _ _ t339 t367 true _ ?side1 ?side2 A59.out).mono ?_); (case side1 => repeat (first | exact (Kd.R_reads' HO_6.out).2.2 | (with_reducible refine Kd.C_alloc ?_ _) | (with_reducible refine Kd.C_drewN ?_ _) | (with_reducible refine Kd.C_drew ?_))); (case side2 => exact (Kd.R_reads' HO_6.out).2.1); rintro e w103 ⟨rfl, hb⟩; refine ⟨_, rfl, ?_⟩; have n0_ := Aside0.mk (Kd.R_below (by (with_reducible repeat (first | apply Kd.R_alloc | apply Kd.R_drewN | apply Kd.R_drew)); (first | exact HO_5.out | (have hz_ := HO_5.out; (try simp only [ob_] at hz_); (try simp only [ob_]); exact hz_))) hb); have n1_ := Aside0.mk (Kd.R_below (by (with_reducible repeat (first | apply Kd.R_alloc | apply Kd.R_drewN | apply Kd.R_drew)); (first | exact HO_6.out | (have hz_ := HO_6.out; (try simp only [ob_] at hz_); (try simp only [ob_]); exact hz_))) hb); have n2_ := Aside0.mk (Kd.R_below (by (with_reducible repeat (first | apply Kd.R_alloc | apply Kd.R_drewN | apply Kd.R_drew)); (first | exact HO_7.out | (have hz_ := HO_7.out; (try simp only [ob_] at hz_); (try simp only [ob_]); exact hz_))) hb); have n3_ := Aside0.mk (below_step (by repeat (first | (with_reducible first | exact HB.out | apply below_alloc | apply pw_below_drewN | apply below_drew1) | exact HB.out)) hb); clear HO_5; clear HO_6; clear HO_7; clear HB; have HO_5 := n0_; have HO_6 := n1_; have HO_7 := n2_; have HB := n3_; clear n0_ n1_ n2_ n3_; (try clear hb); (try clear hb2); (try clear hk); (try clear hi)) | ((with_reducible refine gate_callee (f := 42) rfl ?_); refine goesL_ (some 168) rfl rfl Try.func42 (by kernel_rfl) rfl #[.slice Ao101 t340.length co101] rfl (by (try simp only [List.map_toArray, List.map_cons, List.map_nil]); first | done | rfl | (simp only [List.length_drop, List.length_take]; rfl)) ?_; (with_reducible refine (impl_BracketText.calls kj51 _ _ t340 t369 true _ ?side1 ?side2 A60.out).mono ?_); (case side1 => repeat (first | exact (Kd.R_reads' HO_7.out).2.2 | (with_reducible refine Kd.C_alloc ?_ _) | (with_reducible refine Kd.C_drewN ?_ _) | (with_reducible refine Kd.C_drew ?_))); (case side2 => exact (Kd.R_reads' HO_7.out).2.1); rintro e w104 ⟨rfl, hb⟩; refine ⟨_, rfl, ?_⟩; have n0_ := Aside0.mk (Kd.R_below (by (with_reducible repeat (first | apply Kd.R_alloc | apply Kd.R_drewN | apply Kd.R_drew)); (first | exact HO_5.out | (have hz_ := HO_5.out; (try simp only [ob_] at hz_); (try simp only [ob_]); exact hz_))) hb); have n1_ := Aside0.mk (Kd.R_below (by (with_reducible repeat (first | apply Kd.R_alloc | apply Kd.R_drewN | apply Kd.R_drew)); (first | exact HO_6.out | (have hz_ := HO_6.out; (try simp only [ob_] at hz_); (try simp only [ob_]); exact hz_))) hb); have n2_ := Aside0.mk (Kd.R_below (by (with_reducible repeat (first | apply Kd.R_alloc | apply Kd.R_drewN | apply Kd.R_drew)); (first | exact HO_7.out | (have hz_ := HO_7.out; (try simp only [ob_] at hz_); (try simp only [ob_]); exact hz_))) hb); have n3_ := Aside0.mk (below_step (by repeat (first | (with_reducible first | exact HB.out | apply below_alloc | apply pw_below_drewN | apply below_drew1) | exact HB.out)) hb); clear HO_5; clear HO_6; clear HO_7; clear HB; have HO_5 := n0_; have HO_6 := n1_; have HO_7 := n2_; have HB := n3_; clear n0_ n1_ n2_ n3_; (try clear hb); (try clear hb2); (try clear hk); (try clear hi)) | (go_at_call 21; (with_reducible refine (laws_tLess.calls kj51 _ _ t339 _ _ t340 false _ ?side1 ?side2 ?side3 ?side4 A67.out).mono ?_); (case side1 => repeat (first | exact (Kd.R_reads' HO_6.out).2.2 | (with_reducible refine Kd.C_alloc ?_ _) | (with_reducible refine Kd.C_drewN ?_ _) | (with_reducible refine Kd.C_drew ?_))); (case side2 => exact (Kd.R_reads' HO_6.out).2.1); (case side3 => repeat (first | exact (Kd.R_reads' HO_7.out).2.2 | (with_reducible refine Kd.C_alloc ?_ _) | (with_reducible refine Kd.C_drewN ?_ _) | (with_reducible refine Kd.C_drew ?_))); (case side4 => exact (Kd.R_reads' HO_7.out).2.1); rintro e w' ⟨rfl, ⟨nd, rfl⟩⟩))
                                                go_ret
                                                exact ⟨by first | rfl | (simp [errW_none, errW_some] <;> rfl) | (simp [*, errW_none, errW_some] <;> rfl), by repeat (first | (with_reducible first | exact HB.out | apply below_alloc | apply pw_below_drewN | apply below_drew1) | exact HB.out)⟩
                                          · as_aux_lemma =>
                                              replace c66 := Bool.eq_false_iff.mpr c66
                                              subst c66
                                              have H1 : (some false) = some r := by rw [if_neg (show ¬ (false = true) by decide)] at H; exact H
                                              clear H
                                              have H := H1
                                              clear H1
                                              obtain rfl := Option.some.inj H
                                              obtain ⟨Ao105, co105, eo105⟩ := Kd.R_slice HO_6.out
                                              subst eo105
                                              go_wp2_with (first | ((with_reducible refine gate_callee (f := 20) rfl ?_); refine goesL_ (some 153) rfl rfl Try.func20 (by kernel_rfl) rfl #[.slice Ao105 t339.length co105] rfl (by (try simp only [List.map_toArray, List.map_cons, List.map_nil]); first | done | rfl | (simp only [List.length_drop, List.length_take]; rfl)) ?_; (with_reducible refine (impl_IsLyndon.calls kj51 _ _ t339 true true _ ?side1 ?side2 A57.out).mono ?_); (case side1 => repeat (first | exact (Kd.R_reads' HO_6.out).2.2 | (with_reducible refine Kd.C_alloc ?_ _) | (with_reducible refine Kd.C_drewN ?_ _) | (with_reducible refine Kd.C_drew ?_))); (case side2 => exact (Kd.R_reads' HO_6.out).2.1); rintro e w106 ⟨rfl, hb⟩; refine ⟨_, rfl, ?_⟩; have n0_ := Aside0.mk (Kd.R_below (by (with_reducible repeat (first | apply Kd.R_alloc | apply Kd.R_drewN | apply Kd.R_drew)); (first | exact HO_5.out | (have hz_ := HO_5.out; (try simp only [ob_] at hz_); (try simp only [ob_]); exact hz_))) hb); have n1_ := Aside0.mk (Kd.R_below (by (with_reducible repeat (first | apply Kd.R_alloc | apply Kd.R_drewN | apply Kd.R_drew)); (first | exact HO_6.out | (have hz_ := HO_6.out; (try simp only [ob_] at hz_); (try simp only [ob_]); exact hz_))) hb); have n2_ := Aside0.mk (Kd.R_below (by (with_reducible repeat (first | apply Kd.R_alloc | apply Kd.R_drewN | apply Kd.R_drew)); (first | exact HO_7.out | (have hz_ := HO_7.out; (try simp only [ob_] at hz_); (try simp only [ob_]); exact hz_))) hb); have n3_ := Aside0.mk (below_step (by repeat (first | (with_reducible first | exact HB.out | apply below_alloc | apply pw_below_drewN | apply below_drew1) | exact HB.out)) hb); clear HO_5; clear HO_6; clear HO_7; clear HB; have HO_5 := n0_; have HO_6 := n1_; have HO_7 := n2_; have HB := n3_; clear n0_ n1_ n2_ n3_; (try clear hb); (try clear hb2); (try clear hk); (try clear hi); obtain ⟨Ao107, co107, eo107⟩ := Kd.R_slice HO_7.out; subst eo107) | ((with_reducible refine gate_callee (f := 20) rfl ?_); refine goesL_ (some 158) rfl rfl Try.func20 (by kernel_rfl) rfl #[.slice Ao107 t340.length co107] rfl (by (try simp only [List.map_toArray, List.map_cons, List.map_nil]); first | done | rfl | (simp only [List.length_drop, List.length_take]; rfl)) ?_; (with_reducible refine (impl_IsLyndon.calls kj51 _ _ t340 false true _ ?side1 ?side2 A58.out).mono ?_); (case side1 => repeat (first | exact (Kd.R_reads' HO_7.out).2.2 | (with_reducible refine Kd.C_alloc ?_ _) | (with_reducible refine Kd.C_drewN ?_ _) | (with_reducible refine Kd.C_drew ?_))); (case side2 => exact (Kd.R_reads' HO_7.out).2.1); rintro e w108 ⟨rfl, hb⟩; refine ⟨_, rfl, ?_⟩; have n0_ := Aside0.mk (Kd.R_below (by (with_reducible repeat (first | apply Kd.R_alloc | apply Kd.R_drewN | apply Kd.R_drew)); (first | exact HO_5.out | (have hz_ := HO_5.out; (try simp only [ob_] at hz_); (try simp only [ob_]); exact hz_))) hb); have n1_ := Aside0.mk (Kd.R_below (by (with_reducible repeat (first | apply Kd.R_alloc | apply Kd.R_drewN | apply Kd.R_drew)); (first | exact HO_6.out | (have hz_ := HO_6.out; (try simp only [ob_] at hz_); (try simp only [ob_]); exact hz_))) hb); have n2_ := Aside0.mk (Kd.R_below (by (with_reducible repeat (first | apply Kd.R_alloc | apply Kd.R_drewN | apply Kd.R_drew)); (first | exact HO_7.out | (have hz_ := HO_7.out; (try simp only [ob_] at hz_); (try simp only [ob_]); exact hz_))) hb); have n3_ := Aside0.mk (below_step (by repeat (first | (with_reducible first | exact HB.out | apply below_alloc | apply pw_below_drewN | apply below_drew1) | exact HB.out)) hb); clear HO_5; clear HO_6; clear HO_7; clear HB; have HO_5 := n0_; have HO_6 := n1_; have HO_7 := n2_; have HB := n3_; clear n0_ n1_ n2_ n3_; (try clear hb); (try clear hb2); (try clear hk); (try clear hi)) | ((with_reducible refine gate_callee (f := 42) rfl ?_); refine goesL_ (some 163) rfl rfl Try.func42 (by kernel_rfl) rfl #[.slice Ao105 t339.length co105] rfl (by (try simp only [List.map_toArray, List.map_cons, List.map_nil]); first | done | rfl | (simp only [List.length_drop, List.length_take]; rfl)) ?_; (with_reducible refine (impl_BracketText.calls kj51 _ _ t339 t367 true _ ?side1 ?side2 A59.out).mono ?_); (case side1 => repeat (first | exact (Kd.R_reads' HO_6.out).2.2 | (with_reducible refine Kd.C_alloc ?_ _) | (with_reducible refine Kd.C_drewN ?_ _) | (with_reducible refine Kd.C_drew ?_))); (case side2 => exact (Kd.R_reads' HO_6.out).2.1); rintro e w109 ⟨rfl, hb⟩; refine ⟨_, rfl, ?_⟩; have n0_ := Aside0.mk (Kd.R_below (by (with_reducible repeat (first | apply Kd.R_alloc | apply Kd.R_drewN | apply Kd.R_drew)); (first | exact HO_5.out | (have hz_ := HO_5.out; (try simp only [ob_] at hz_); (try simp only [ob_]); exact hz_))) hb); have n1_ := Aside0.mk (Kd.R_below (by (with_reducible repeat (first | apply Kd.R_alloc | apply Kd.R_drewN | apply Kd.R_drew)); (first | exact HO_6.out | (have hz_ := HO_6.out; (try simp only [ob_] at hz_); (try simp only [ob_]); exact hz_))) hb); have n2_ := Aside0.mk (Kd.R_below (by (with_reducible repeat (first | apply Kd.R_alloc | apply Kd.R_drewN | apply Kd.R_drew)); (first | exact HO_7.out | (have hz_ := HO_7.out; (try simp only [ob_] at hz_); (try simp only [ob_]); exact hz_))) hb); have n3_ := Aside0.mk (below_step (by repeat (first | (with_reducible first | exact HB.out | apply below_alloc | apply pw_below_drewN | apply below_drew1) | exact HB.out)) hb); clear HO_5; clear HO_6; clear HO_7; clear HB; have HO_5 := n0_; have HO_6 := n1_; have HO_7 := n2_; have HB := n3_; clear n0_ n1_ n2_ n3_; (try clear hb); (try clear hb2); (try clear hk); (try clear hi)) | ((with_reducible refine gate_callee (f := 42) rfl ?_); refine goesL_ (some 168) rfl rfl Try.func42 (by kernel_rfl) rfl #[.slice Ao107 t340.length co107] rfl (by (try simp only [List.map_toArray, List.map_cons, List.map_nil]); first | done | rfl | (simp only [List.length_drop, List.length_take]; rfl)) ?_; (with_reducible refine (impl_BracketText.calls kj51 _ _ t340 t369 true _ ?side1 ?side2 A60.out).mono ?_); (case side1 => repeat (first | exact (Kd.R_reads' HO_7.out).2.2 | (with_reducible refine Kd.C_alloc ?_ _) | (with_reducible refine Kd.C_drewN ?_ _) | (with_reducible refine Kd.C_drew ?_))); (case side2 => exact (Kd.R_reads' HO_7.out).2.1); rintro e w110 ⟨rfl, hb⟩; refine ⟨_, rfl, ?_⟩; have n0_ := Aside0.mk (Kd.R_below (by (with_reducible repeat (first | apply Kd.R_alloc | apply Kd.R_drewN | apply Kd.R_drew)); (first | exact HO_5.out | (have hz_ := HO_5.out; (try simp only [ob_] at hz_); (try simp only [ob_]); exact hz_))) hb); have n1_ := Aside0.mk (Kd.R_below (by (with_reducible repeat (first | apply Kd.R_alloc | apply Kd.R_drewN | apply Kd.R_drew)); (first | exact HO_6.out | (have hz_ := HO_6.out; (try simp only [ob_] at hz_); (try simp only [ob_]); exact hz_))) hb); have n2_ := Aside0.mk (Kd.R_below (by (with_reducible repeat (first | apply Kd.R_alloc | apply Kd.R_drewN | apply Kd.R_drew)); (first | exact HO_7.out | (have hz_ := HO_7.out; (try simp only [ob_] at hz_); (try simp only [ob_]); exact hz_))) hb); have n3_ := Aside0.mk (below_step (by repeat (first | (with_reducible first | exact HB.out | apply below_alloc | apply pw_below_drewN | apply below_drew1) | exact HB.out)) hb); clear HO_5; clear HO_6; clear HO_7; clear HB; have HO_5 := n0_; have HO_6 := n1_; have HO_7 := n2_; have HB := n3_; clear n0_ n1_ n2_ n3_; (try clear hb); (try clear hb2); (try clear hk); (try clear hi)))
                                              go_ret
                                              exact ⟨by first | rfl | (simp [errW_none, errW_some] <;> rfl) | (simp [*, errW_none, errW_some] <;> rfl), by repeat (first | (with_reducible first | exact HB.out | apply below_alloc | apply pw_below_drewN | apply below_drew1) | exact HB.out)⟩
                                        · as_aux_lemma =>
                                            replace c65 := Bool.eq_false_iff.mpr c65
                                            subst c65
                                            have H1 : (some false) = some r := by rw [if_neg (show ¬ (false = true) by decide)] at H; exact H
                                            clear H
                                            have H := H1
                                            clear H1
                                            obtain rfl := Option.some.inj H
                                            obtain ⟨Ao111, co111, eo111⟩ := Kd.R_slice HO_6.out
                                            subst eo111
                                            go_wp2_with (first | ((with_reducible refine gate_callee (f := 20) rfl ?_); refine goesL_ (some 153) rfl rfl Try.func20 (by kernel_rfl) rfl #[.slice Ao111 t339.length co111] rfl (by (try simp only [List.map_toArray, List.map_cons, List.map_nil]); first | done | rfl | (simp only [List.length_drop, List.length_take]; rfl)) ?_; (with_reducible refine (impl_IsLyndon.calls kj51 _ _ t339 false true _ ?side1 ?side2 A57.out).mono ?_); (case side1 => repeat (first | exact (Kd.R_reads' HO_6.out).2.2 | (with_reducible refine Kd.C_alloc ?_ _) | (with_reducible refine Kd.C_drewN ?_ _) | (with_reducible refine Kd.C_drew ?_))); (case side2 => exact (Kd.R_reads' HO_6.out).2.1); rintro e w112 ⟨rfl, hb⟩; refine ⟨_, rfl, ?_⟩; have n0_ := Aside0.mk (Kd.R_below (by (with_reducible repeat (first | apply Kd.R_alloc | apply Kd.R_drewN | apply Kd.R_drew)); (first | exact HO_5.out | (have hz_ := HO_5.out; (try simp only [ob_] at hz_); (try simp only [ob_]); exact hz_))) hb); have n1_ := Aside0.mk (Kd.R_below (by (with_reducible repeat (first | apply Kd.R_alloc | apply Kd.R_drewN | apply Kd.R_drew)); (first | exact HO_6.out | (have hz_ := HO_6.out; (try simp only [ob_] at hz_); (try simp only [ob_]); exact hz_))) hb); have n2_ := Aside0.mk (Kd.R_below (by (with_reducible repeat (first | apply Kd.R_alloc | apply Kd.R_drewN | apply Kd.R_drew)); (first | exact HO_7.out | (have hz_ := HO_7.out; (try simp only [ob_] at hz_); (try simp only [ob_]); exact hz_))) hb); have n3_ := Aside0.mk (below_step (by repeat (first | (with_reducible first | exact HB.out | apply below_alloc | apply pw_below_drewN | apply below_drew1) | exact HB.out)) hb); clear HO_5; clear HO_6; clear HO_7; clear HB; have HO_5 := n0_; have HO_6 := n1_; have HO_7 := n2_; have HB := n3_; clear n0_ n1_ n2_ n3_; (try clear hb); (try clear hb2); (try clear hk); (try clear hi); obtain ⟨Ao113, co113, eo113⟩ := Kd.R_slice HO_7.out; subst eo113) | ((with_reducible refine gate_callee (f := 20) rfl ?_); refine goesL_ (some 158) rfl rfl Try.func20 (by kernel_rfl) rfl #[.slice Ao113 t340.length co113] rfl (by (try simp only [List.map_toArray, List.map_cons, List.map_nil]); first | done | rfl | (simp only [List.length_drop, List.length_take]; rfl)) ?_; (with_reducible refine (impl_IsLyndon.calls kj51 _ _ t340 t365 true _ ?side1 ?side2 A58.out).mono ?_); (case side1 => repeat (first | exact (Kd.R_reads' HO_7.out).2.2 | (with_reducible refine Kd.C_alloc ?_ _) | (with_reducible refine Kd.C_drewN ?_ _) | (with_reducible refine Kd.C_drew ?_))); (case side2 => exact (Kd.R_reads' HO_7.out).2.1); rintro e w114 ⟨rfl, hb⟩; refine ⟨_, rfl, ?_⟩; have n0_ := Aside0.mk (Kd.R_below (by (with_reducible repeat (first | apply Kd.R_alloc | apply Kd.R_drewN | apply Kd.R_drew)); (first | exact HO_5.out | (have hz_ := HO_5.out; (try simp only [ob_] at hz_); (try simp only [ob_]); exact hz_))) hb); have n1_ := Aside0.mk (Kd.R_below (by (with_reducible repeat (first | apply Kd.R_alloc | apply Kd.R_drewN | apply Kd.R_drew)); (first | exact HO_6.out | (have hz_ := HO_6.out; (try simp only [ob_] at hz_); (try simp only [ob_]); exact hz_))) hb); have n2_ := Aside0.mk (Kd.R_below (by (with_reducible repeat (first | apply Kd.R_alloc | apply Kd.R_drewN | apply Kd.R_drew)); (first | exact HO_7.out | (have hz_ := HO_7.out; (try simp only [ob_] at hz_); (try simp only [ob_]); exact hz_))) hb); have n3_ := Aside0.mk (below_step (by repeat (first | (with_reducible first | exact HB.out | apply below_alloc | apply pw_below_drewN | apply below_drew1) | exact HB.out)) hb); clear HO_5; clear HO_6; clear HO_7; clear HB; have HO_5 := n0_; have HO_6 := n1_; have HO_7 := n2_; have HB := n3_; clear n0_ n1_ n2_ n3_; (try clear hb); (try clear hb2); (try clear hk); (try clear hi)) | ((with_reducible refine gate_callee (f := 42) rfl ?_); refine goesL_ (some 163) rfl rfl Try.func42 (by kernel_rfl) rfl #[.slice Ao111 t339.length co111] rfl (by (try simp only [List.map_toArray, List.map_cons, List.map_nil]); first | done | rfl | (simp only [List.length_drop, List.length_take]; rfl)) ?_; (with_reducible refine (impl_BracketText.calls kj51 _ _ t339 t367 true _ ?side1 ?side2 A59.out).mono ?_); (case side1 => repeat (first | exact (Kd.R_reads' HO_6.out).2.2 | (with_reducible refine Kd.C_alloc ?_ _) | (with_reducible refine Kd.C_drewN ?_ _) | (with_reducible refine Kd.C_drew ?_))); (case side2 => exact (Kd.R_reads' HO_6.out).2.1); rintro e w115 ⟨rfl, hb⟩; refine ⟨_, rfl, ?_⟩; have n0_ := Aside0.mk (Kd.R_below (by (with_reducible repeat (first | apply Kd.R_alloc | apply Kd.R_drewN | apply Kd.R_drew)); (first | exact HO_5.out | (have hz_ := HO_5.out; (try simp only [ob_] at hz_); (try simp only [ob_]); exact hz_))) hb); have n1_ := Aside0.mk (Kd.R_below (by (with_reducible repeat (first | apply Kd.R_alloc | apply Kd.R_drewN | apply Kd.R_drew)); (first | exact HO_6.out | (have hz_ := HO_6.out; (try simp only [ob_] at hz_); (try simp only [ob_]); exact hz_))) hb); have n2_ := Aside0.mk (Kd.R_below (by (with_reducible repeat (first | apply Kd.R_alloc | apply Kd.R_drewN | apply Kd.R_drew)); (first | exact HO_7.out | (have hz_ := HO_7.out; (try simp only [ob_] at hz_); (try simp only [ob_]); exact hz_))) hb); have n3_ := Aside0.mk (below_step (by repeat (first | (with_reducible first | exact HB.out | apply below_alloc | apply pw_below_drewN | apply below_drew1) | exact HB.out)) hb); clear HO_5; clear HO_6; clear HO_7; clear HB; have HO_5 := n0_; have HO_6 := n1_; have HO_7 := n2_; have HB := n3_; clear n0_ n1_ n2_ n3_; (try clear hb); (try clear hb2); (try clear hk); (try clear hi)) | ((with_reducible refine gate_callee (f := 42) rfl ?_); refine goesL_ (some 168) rfl rfl Try.func42 (by kernel_rfl) rfl #[.slice Ao113 t340.length co113] rfl (by (try simp only [List.map_toArray, List.map_cons, List.map_nil]); first | done | rfl | (simp only [List.length_drop, List.length_take]; rfl)) ?_; (with_reducible refine (impl_BracketText.calls kj51 _ _ t340 t369 true _ ?side1 ?side2 A60.out).mono ?_); (case side1 => repeat (first | exact (Kd.R_reads' HO_7.out).2.2 | (with_reducible refine Kd.C_alloc ?_ _) | (with_reducible refine Kd.C_drewN ?_ _) | (with_reducible refine Kd.C_drew ?_))); (case side2 => exact (Kd.R_reads' HO_7.out).2.1); rintro e w116 ⟨rfl, hb⟩; refine ⟨_, rfl, ?_⟩; have n0_ := Aside0.mk (Kd.R_below (by (with_reducible repeat (first | apply Kd.R_alloc | apply Kd.R_drewN | apply Kd.R_drew)); (first | exact HO_5.out | (have hz_ := HO_5.out; (try simp only [ob_] at hz_); (try simp only [ob_]); exact hz_))) hb); have n1_ := Aside0.mk (Kd.R_below (by (with_reducible repeat (first | apply Kd.R_alloc | apply Kd.R_drewN | apply Kd.R_drew)); (first | exact HO_6.out | (have hz_ := HO_6.out; (try simp only [ob_] at hz_); (try simp only [ob_]); exact hz_))) hb); have n2_ := Aside0.mk (Kd.R_below (by (with_reducible repeat (first | apply Kd.R_alloc | apply Kd.R_drewN | apply Kd.R_drew)); (first | exact HO_7.out | (have hz_ := HO_7.out; (try simp only [ob_] at hz_); (try simp only [ob_]); exact hz_))) hb); have n3_ := Aside0.mk (below_step (by repeat (first | (with_reducible first | exact HB.out | apply below_alloc | apply pw_below_drewN | apply below_drew1) | exact HB.out)) hb); clear HO_5; clear HO_6; clear HO_7; clear HB; have HO_5 := n0_; have HO_6 := n1_; have HO_7 := n2_; have HB := n3_; clear n0_ n1_ n2_ n3_; (try clear hb); (try clear hb2); (try clear hk); (try clear hi)))
                                            go_ret
                                            exact ⟨by first | rfl | (simp [errW_none, errW_some] <;> rfl) | (simp [*, errW_none, errW_some] <;> rfl), by repeat (first | (with_reducible first | exact HB.out | apply below_alloc | apply pw_below_drewN | apply below_drew1) | exact HB.out)⟩
                                      · as_aux_lemma =>
                                          replace c64 := Bool.eq_false_iff.mpr c64
                                          subst c64
                                          have H1 : (some false) = some r := by rw [if_neg (show ¬ (false = true) by decide)] at H; exact H
                                          clear H
                                          have H := H1
                                          clear H1
                                          obtain rfl := Option.some.inj H
                                          obtain ⟨Ao117, co117, eo117⟩ := Kd.R_slice HO_6.out
                                          subst eo117
                                          go_wp2_with (first | ((with_reducible refine gate_callee (f := 20) rfl ?_); refine goesL_ (some 153) rfl rfl Try.func20 (by kernel_rfl) rfl #[.slice Ao117 t339.length co117] rfl (by (try simp only [List.map_toArray, List.map_cons, List.map_nil]); first | done | rfl | (simp only [List.length_drop, List.length_take]; rfl)) ?_; (with_reducible refine (impl_IsLyndon.calls kj51 _ _ t339 t363 true _ ?side1 ?side2 A57.out).mono ?_); (case side1 => repeat (first | exact (Kd.R_reads' HO_6.out).2.2 | (with_reducible refine Kd.C_alloc ?_ _) | (with_reducible refine Kd.C_drewN ?_ _) | (with_reducible refine Kd.C_drew ?_))); (case side2 => exact (Kd.R_reads' HO_6.out).2.1); rintro e w118 ⟨rfl, hb⟩; refine ⟨_, rfl, ?_⟩; have n0_ := Aside0.mk (Kd.R_below (by (with_reducible repeat (first | apply Kd.R_alloc | apply Kd.R_drewN | apply Kd.R_drew)); (first | exact HO_5.out | (have hz_ := HO_5.out; (try simp only [ob_] at hz_); (try simp only [ob_]); exact hz_))) hb); have n1_ := Aside0.mk (Kd.R_below (by (with_reducible repeat (first | apply Kd.R_alloc | apply Kd.R_drewN | apply Kd.R_drew)); (first | exact HO_6.out | (have hz_ := HO_6.out; (try simp only [ob_] at hz_); (try simp only [ob_]); exact hz_))) hb); have n2_ := Aside0.mk (Kd.R_below (by (with_reducible repeat (first | apply Kd.R_alloc | apply Kd.R_drewN | apply Kd.R_drew)); (first | exact HO_7.out | (have hz_ := HO_7.out; (try simp only [ob_] at hz_); (try simp only [ob_]); exact hz_))) hb); have n3_ := Aside0.mk (below_step (by repeat (first | (with_reducible first | exact HB.out | apply below_alloc | apply pw_below_drewN | apply below_drew1) | exact HB.out)) hb); clear HO_5; clear HO_6; clear HO_7; clear HB; have HO_5 := n0_; have HO_6 := n1_; have HO_7 := n2_; have HB := n3_; clear n0_ n1_ n2_ n3_; (try clear hb); (try clear hb2); (try clear hk); (try clear hi); obtain ⟨Ao119, co119, eo119⟩ := Kd.R_slice HO_7.out; subst eo119) | ((with_reducible refine gate_callee (f := 20) rfl ?_); refine goesL_ (some 158) rfl rfl Try.func20 (by kernel_rfl) rfl #[.slice Ao119 t340.length co119] rfl (by (try simp only [List.map_toArray, List.map_cons, List.map_nil]); first | done | rfl | (simp only [List.length_drop, List.length_take]; rfl)) ?_; (with_reducible refine (impl_IsLyndon.calls kj51 _ _ t340 t365 true _ ?side1 ?side2 A58.out).mono ?_); (case side1 => repeat (first | exact (Kd.R_reads' HO_7.out).2.2 | (with_reducible refine Kd.C_alloc ?_ _) | (with_reducible refine Kd.C_drewN ?_ _) | (with_reducible refine Kd.C_drew ?_))); (case side2 => exact (Kd.R_reads' HO_7.out).2.1); rintro e w120 ⟨rfl, hb⟩; refine ⟨_, rfl, ?_⟩; have n0_ := Aside0.mk (Kd.R_below (by (with_reducible repeat (first | apply Kd.R_alloc | apply Kd.R_drewN | apply Kd.R_drew)); (first | exact HO_5.out | (have hz_ := HO_5.out; (try simp only [ob_] at hz_); (try simp only [ob_]); exact hz_))) hb); have n1_ := Aside0.mk (Kd.R_below (by (with_reducible repeat (first | apply Kd.R_alloc | apply Kd.R_drewN | apply Kd.R_drew)); (first | exact HO_6.out | (have hz_ := HO_6.out; (try simp only [ob_] at hz_); (try simp only [ob_]); exact hz_))) hb); have n2_ := Aside0.mk (Kd.R_below (by (with_reducible repeat (first | apply Kd.R_alloc | apply Kd.R_drewN | apply Kd.R_drew)); (first | exact HO_7.out | (have hz_ := HO_7.out; (try simp only [ob_] at hz_); (try simp only [ob_]); exact hz_))) hb); have n3_ := Aside0.mk (below_step (by repeat (first | (with_reducible first | exact HB.out | apply below_alloc | apply pw_below_drewN | apply below_drew1) | exact HB.out)) hb); clear HO_5; clear HO_6; clear HO_7; clear HB; have HO_5 := n0_; have HO_6 := n1_; have HO_7 := n2_; have HB := n3_; clear n0_ n1_ n2_ n3_; (try clear hb); (try clear hb2); (try clear hk); (try clear hi)) | ((with_reducible refine gate_callee (f := 42) rfl ?_); refine goesL_ (some 163) rfl rfl Try.func42 (by kernel_rfl) rfl #[.slice Ao117 t339.length co117] rfl (by (try simp only [List.map_toArray, List.map_cons, List.map_nil]); first | done | rfl | (simp only [List.length_drop, List.length_take]; rfl)) ?_; (with_reducible refine (impl_BracketText.calls kj51 _ _ t339 t367 true _ ?side1 ?side2 A59.out).mono ?_); (case side1 => repeat (first | exact (Kd.R_reads' HO_6.out).2.2 | (with_reducible refine Kd.C_alloc ?_ _) | (with_reducible refine Kd.C_drewN ?_ _) | (with_reducible refine Kd.C_drew ?_))); (case side2 => exact (Kd.R_reads' HO_6.out).2.1); rintro e w121 ⟨rfl, hb⟩; refine ⟨_, rfl, ?_⟩; have n0_ := Aside0.mk (Kd.R_below (by (with_reducible repeat (first | apply Kd.R_alloc | apply Kd.R_drewN | apply Kd.R_drew)); (first | exact HO_5.out | (have hz_ := HO_5.out; (try simp only [ob_] at hz_); (try simp only [ob_]); exact hz_))) hb); have n1_ := Aside0.mk (Kd.R_below (by (with_reducible repeat (first | apply Kd.R_alloc | apply Kd.R_drewN | apply Kd.R_drew)); (first | exact HO_6.out | (have hz_ := HO_6.out; (try simp only [ob_] at hz_); (try simp only [ob_]); exact hz_))) hb); have n2_ := Aside0.mk (Kd.R_below (by (with_reducible repeat (first | apply Kd.R_alloc | apply Kd.R_drewN | apply Kd.R_drew)); (first | exact HO_7.out | (have hz_ := HO_7.out; (try simp only [ob_] at hz_); (try simp only [ob_]); exact hz_))) hb); have n3_ := Aside0.mk (below_step (by repeat (first | (with_reducible first | exact HB.out | apply below_alloc | apply pw_below_drewN | apply below_drew1) | exact HB.out)) hb); clear HO_5; clear HO_6; clear HO_7; clear HB; have HO_5 := n0_; have HO_6 := n1_; have HO_7 := n2_; have HB := n3_; clear n0_ n1_ n2_ n3_; (try clear hb); (try clear hb2); (try clear hk); (try clear hi)) | ((with_reducible refine gate_callee (f := 42) rfl ?_); refine goesL_ (some 168) rfl rfl Try.func42 (by kernel_rfl) rfl #[.slice Ao119 t340.length co119] rfl (by (try simp only [List.map_toArray, List.map_cons, List.map_nil]); first | done | rfl | (simp only [List.length_drop, List.length_take]; rfl)) ?_; (with_reducible refine (impl_BracketText.calls kj51 _ _ t340 t369 false _ ?side1 ?side2 A60.out).mono ?_); (case side1 => repeat (first | exact (Kd.R_reads' HO_7.out).2.2 | (with_reducible refine Kd.C_alloc ?_ _) | (with_reducible refine Kd.C_drewN ?_ _) | (with_reducible refine Kd.C_drew ?_))); (case side2 => exact (Kd.R_reads' HO_7.out).2.1); rintro e w122 ⟨rfl, hb⟩; refine ⟨_, rfl, ?_⟩; have n0_ := Aside0.mk (Kd.R_below (by (with_reducible repeat (first | apply Kd.R_alloc | apply Kd.R_drewN | apply Kd.R_drew)); (first | exact HO_5.out | (have hz_ := HO_5.out; (try simp only [ob_] at hz_); (try simp only [ob_]); exact hz_))) hb); have n1_ := Aside0.mk (Kd.R_below (by (with_reducible repeat (first | apply Kd.R_alloc | apply Kd.R_drewN | apply Kd.R_drew)); (first | exact HO_6.out | (have hz_ := HO_6.out; (try simp only [ob_] at hz_); (try simp only [ob_]); exact hz_))) hb); have n2_ := Aside0.mk (Kd.R_below (by (with_reducible repeat (first | apply Kd.R_alloc | apply Kd.R_drewN | apply Kd.R_drew)); (first | exact HO_7.out | (have hz_ := HO_7.out; (try simp only [ob_] at hz_); (try simp only [ob_]); exact hz_))) hb); have n3_ := Aside0.mk (below_step (by repeat (first | (with_reducible first | exact HB.out | apply below_alloc | apply pw_below_drewN | apply below_drew1) | exact HB.out)) hb); clear HO_5; clear HO_6; clear HO_7; clear HB; have HO_5 := n0_; have HO_6 := n1_; have HO_7 := n2_; have HB := n3_; clear n0_ n1_ n2_ n3_; (try clear hb); (try clear hb2); (try clear hk); (try clear hi)))
                                          go_ret
                                          exact ⟨by first | rfl | (simp [errW_none, errW_some] <;> rfl) | (simp [*, errW_none, errW_some] <;> rfl), by repeat (first | (with_reducible first | exact HB.out | apply below_alloc | apply pw_below_drewN | apply below_drew1) | exact HB.out)⟩
                                    · as_aux_lemma =>
                                        replace c63 := Bool.eq_false_iff.mpr c63
                                        subst c63
                                        have H1 : (some false) = some r := by rw [if_neg (show ¬ (false = true) by decide)] at H; exact H
                                        clear H
                                        have H := H1
                                        clear H1
                                        obtain rfl := Option.some.inj H
                                        obtain ⟨Ao123, co123, eo123⟩ := Kd.R_slice HO_6.out
                                        subst eo123
                                        go_wp2_with (first | ((with_reducible refine gate_callee (f := 20) rfl ?_); refine goesL_ (some 153) rfl rfl Try.func20 (by kernel_rfl) rfl #[.slice Ao123 t339.length co123] rfl (by (try simp only [List.map_toArray, List.map_cons, List.map_nil]); first | done | rfl | (simp only [List.length_drop, List.length_take]; rfl)) ?_; (with_reducible refine (impl_IsLyndon.calls kj51 _ _ t339 t363 true _ ?side1 ?side2 A57.out).mono ?_); (case side1 => repeat (first | exact (Kd.R_reads' HO_6.out).2.2 | (with_reducible refine Kd.C_alloc ?_ _) | (with_reducible refine Kd.C_drewN ?_ _) | (with_reducible refine Kd.C_drew ?_))); (case side2 => exact (Kd.R_reads' HO_6.out).2.1); rintro e w124 ⟨rfl, hb⟩; refine ⟨_, rfl, ?_⟩; have n0_ := Aside0.mk (Kd.R_below (by (with_reducible repeat (first | apply Kd.R_alloc | apply Kd.R_drewN | apply Kd.R_drew)); (first | exact HO_5.out | (have hz_ := HO_5.out; (try simp only [ob_] at hz_); (try simp only [ob_]); exact hz_))) hb); have n1_ := Aside0.mk (Kd.R_below (by (with_reducible repeat (first | apply Kd.R_alloc | apply Kd.R_drewN | apply Kd.R_drew)); (first | exact HO_6.out | (have hz_ := HO_6.out; (try simp only [ob_] at hz_); (try simp only [ob_]); exact hz_))) hb); have n2_ := Aside0.mk (Kd.R_below (by (with_reducible repeat (first | apply Kd.R_alloc | apply Kd.R_drewN | apply Kd.R_drew)); (first | exact HO_7.out | (have hz_ := HO_7.out; (try simp only [ob_] at hz_); (try simp only [ob_]); exact hz_))) hb); have n3_ := Aside0.mk (below_step (by repeat (first | (with_reducible first | exact HB.out | apply below_alloc | apply pw_below_drewN | apply below_drew1) | exact HB.out)) hb); clear HO_5; clear HO_6; clear HO_7; clear HB; have HO_5 := n0_; have HO_6 := n1_; have HO_7 := n2_; have HB := n3_; clear n0_ n1_ n2_ n3_; (try clear hb); (try clear hb2); (try clear hk); (try clear hi); obtain ⟨Ao125, co125, eo125⟩ := Kd.R_slice HO_7.out; subst eo125) | ((with_reducible refine gate_callee (f := 20) rfl ?_); refine goesL_ (some 158) rfl rfl Try.func20 (by kernel_rfl) rfl #[.slice Ao125 t340.length co125] rfl (by (try simp only [List.map_toArray, List.map_cons, List.map_nil]); first | done | rfl | (simp only [List.length_drop, List.length_take]; rfl)) ?_; (with_reducible refine (impl_IsLyndon.calls kj51 _ _ t340 t365 true _ ?side1 ?side2 A58.out).mono ?_); (case side1 => repeat (first | exact (Kd.R_reads' HO_7.out).2.2 | (with_reducible refine Kd.C_alloc ?_ _) | (with_reducible refine Kd.C_drewN ?_ _) | (with_reducible refine Kd.C_drew ?_))); (case side2 => exact (Kd.R_reads' HO_7.out).2.1); rintro e w126 ⟨rfl, hb⟩; refine ⟨_, rfl, ?_⟩; have n0_ := Aside0.mk (Kd.R_below (by (with_reducible repeat (first | apply Kd.R_alloc | apply Kd.R_drewN | apply Kd.R_drew)); (first | exact HO_5.out | (have hz_ := HO_5.out; (try simp only [ob_] at hz_); (try simp only [ob_]); exact hz_))) hb); have n1_ := Aside0.mk (Kd.R_below (by (with_reducible repeat (first | apply Kd.R_alloc | apply Kd.R_drewN | apply Kd.R_drew)); (first | exact HO_6.out | (have hz_ := HO_6.out; (try simp only [ob_] at hz_); (try simp only [ob_]); exact hz_))) hb); have n2_ := Aside0.mk (Kd.R_below (by (with_reducible repeat (first | apply Kd.R_alloc | apply Kd.R_drewN | apply Kd.R_drew)); (first | exact HO_7.out | (have hz_ := HO_7.out; (try simp only [ob_] at hz_); (try simp only [ob_]); exact hz_))) hb); have n3_ := Aside0.mk (below_step (by repeat (first | (with_reducible first | exact HB.out | apply below_alloc | apply pw_below_drewN | apply below_drew1) | exact HB.out)) hb); clear HO_5; clear HO_6; clear HO_7; clear HB; have HO_5 := n0_; have HO_6 := n1_; have HO_7 := n2_; have HB := n3_; clear n0_ n1_ n2_ n3_; (try clear hb); (try clear hb2); (try clear hk); (try clear hi)) | ((with_reducible refine gate_callee (f := 42) rfl ?_); refine goesL_ (some 163) rfl rfl Try.func42 (by kernel_rfl) rfl #[.slice Ao123 t339.length co123] rfl (by (try simp only [List.map_toArray, List.map_cons, List.map_nil]); first | done | rfl | (simp only [List.length_drop, List.length_take]; rfl)) ?_; (with_reducible refine (impl_BracketText.calls kj51 _ _ t339 t367 false _ ?side1 ?side2 A59.out).mono ?_); (case side1 => repeat (first | exact (Kd.R_reads' HO_6.out).2.2 | (with_reducible refine Kd.C_alloc ?_ _) | (with_reducible refine Kd.C_drewN ?_ _) | (with_reducible refine Kd.C_drew ?_))); (case side2 => exact (Kd.R_reads' HO_6.out).2.1); rintro e w127 ⟨rfl, hb⟩; refine ⟨_, rfl, ?_⟩; have n0_ := Aside0.mk (Kd.R_below (by (with_reducible repeat (first | apply Kd.R_alloc | apply Kd.R_drewN | apply Kd.R_drew)); (first | exact HO_5.out | (have hz_ := HO_5.out; (try simp only [ob_] at hz_); (try simp only [ob_]); exact hz_))) hb); have n1_ := Aside0.mk (Kd.R_below (by (with_reducible repeat (first | apply Kd.R_alloc | apply Kd.R_drewN | apply Kd.R_drew)); (first | exact HO_6.out | (have hz_ := HO_6.out; (try simp only [ob_] at hz_); (try simp only [ob_]); exact hz_))) hb); have n2_ := Aside0.mk (Kd.R_below (by (with_reducible repeat (first | apply Kd.R_alloc | apply Kd.R_drewN | apply Kd.R_drew)); (first | exact HO_7.out | (have hz_ := HO_7.out; (try simp only [ob_] at hz_); (try simp only [ob_]); exact hz_))) hb); have n3_ := Aside0.mk (below_step (by repeat (first | (with_reducible first | exact HB.out | apply below_alloc | apply pw_below_drewN | apply below_drew1) | exact HB.out)) hb); clear HO_5; clear HO_6; clear HO_7; clear HB; have HO_5 := n0_; have HO_6 := n1_; have HO_7 := n2_; have HB := n3_; clear n0_ n1_ n2_ n3_; (try clear hb); (try clear hb2); (try clear hk); (try clear hi)) | ((with_reducible refine gate_callee (f := 42) rfl ?_); refine goesL_ (some 168) rfl rfl Try.func42 (by kernel_rfl) rfl #[.slice Ao125 t340.length co125] rfl (by (try simp only [List.map_toArray, List.map_cons, List.map_nil]); first | done | rfl | (simp only [List.length_drop, List.length_take]; rfl)) ?_; (with_reducible refine (impl_BracketText.calls kj51 _ _ t340 t369 t370 _ ?side1 ?side2 A60.out).mono ?_); (case side1 => repeat (first | exact (Kd.R_reads' HO_7.out).2.2 | (with_reducible refine Kd.C_alloc ?_ _) | (with_reducible refine Kd.C_drewN ?_ _) | (with_reducible refine Kd.C_drew ?_))); (case side2 => exact (Kd.R_reads' HO_7.out).2.1); rintro e w128 ⟨rfl, hb⟩; refine ⟨_, rfl, ?_⟩; have n0_ := Aside0.mk (Kd.R_below (by (with_reducible repeat (first | apply Kd.R_alloc | apply Kd.R_drewN | apply Kd.R_drew)); (first | exact HO_5.out | (have hz_ := HO_5.out; (try simp only [ob_] at hz_); (try simp only [ob_]); exact hz_))) hb); have n1_ := Aside0.mk (Kd.R_below (by (with_reducible repeat (first | apply Kd.R_alloc | apply Kd.R_drewN | apply Kd.R_drew)); (first | exact HO_6.out | (have hz_ := HO_6.out; (try simp only [ob_] at hz_); (try simp only [ob_]); exact hz_))) hb); have n2_ := Aside0.mk (Kd.R_below (by (with_reducible repeat (first | apply Kd.R_alloc | apply Kd.R_drewN | apply Kd.R_drew)); (first | exact HO_7.out | (have hz_ := HO_7.out; (try simp only [ob_] at hz_); (try simp only [ob_]); exact hz_))) hb); have n3_ := Aside0.mk (below_step (by repeat (first | (with_reducible first | exact HB.out | apply below_alloc | apply pw_below_drewN | apply below_drew1) | exact HB.out)) hb); clear HO_5; clear HO_6; clear HO_7; clear HB; have HO_5 := n0_; have HO_6 := n1_; have HO_7 := n2_; have HB := n3_; clear n0_ n1_ n2_ n3_; (try clear hb); (try clear hb2); (try clear hk); (try clear hi)))
                                        go_ret
                                        exact ⟨by first | rfl | (simp [errW_none, errW_some] <;> rfl) | (simp [*, errW_none, errW_some] <;> rfl), by repeat (first | (with_reducible first | exact HB.out | apply below_alloc | apply pw_below_drewN | apply below_drew1) | exact HB.out)⟩
                                  · as_aux_lemma =>
                                      replace c62 := Bool.eq_false_iff.mpr c62
                                      subst c62
                                      have H1 : (some false) = some r := by rw [if_neg (show ¬ (false = true) by decide)] at H; exact H
                                      clear H
                                      have H := H1
                                      clear H1
                                      obtain rfl := Option.some.inj H
                                      obtain ⟨Ao129, co129, eo129⟩ := Kd.R_slice HO_6.out
                                      subst eo129
                                      go_wp2_with (first | ((with_reducible refine gate_callee (f := 20) rfl ?_); refine goesL_ (some 153) rfl rfl Try.func20 (by kernel_rfl) rfl #[.slice Ao129 t339.length co129] rfl (by (try simp only [List.map_toArray, List.map_cons, List.map_nil]); first | done | rfl | (simp only [List.length_drop, List.length_take]; rfl)) ?_; (with_reducible refine (impl_IsLyndon.calls kj51 _ _ t339 t363 true _ ?side1 ?side2 A57.out).mono ?_); (case side1 => repeat (first | exact (Kd.R_reads' HO_6.out).2.2 | (with_reducible refine Kd.C_alloc ?_ _) | (with_reducible refine Kd.C_drewN ?_ _) | (with_reducible refine Kd.C_drew ?_))); (case side2 => exact (Kd.R_reads' HO_6.out).2.1); rintro e w130 ⟨rfl, hb⟩; refine ⟨_, rfl, ?_⟩; have n0_ := Aside0.mk (Kd.R_below (by (with_reducible repeat (first | apply Kd.R_alloc | apply Kd.R_drewN | apply Kd.R_drew)); (first | exact HO_5.out | (have hz_ := HO_5.out; (try simp only [ob_] at hz_); (try simp only [ob_]); exact hz_))) hb); have n1_ := Aside0.mk (Kd.R_below (by (with_reducible repeat (first | apply Kd.R_alloc | apply Kd.R_drewN | apply Kd.R_drew)); (first | exact HO_6.out | (have hz_ := HO_6.out; (try simp only [ob_] at hz_); (try simp only [ob_]); exact hz_))) hb); have n2_ := Aside0.mk (Kd.R_below (by (with_reducible repeat (first | apply Kd.R_alloc | apply Kd.R_drewN | apply Kd.R_drew)); (first | exact HO_7.out | (have hz_ := HO_7.out; (try simp only [ob_] at hz_); (try simp only [ob_]); exact hz_))) hb); have n3_ := Aside0.mk (below_step (by repeat (first | (with_reducible first | exact HB.out | apply below_alloc | apply pw_below_drewN | apply below_drew1) | exact HB.out)) hb); clear HO_5; clear HO_6; clear HO_7; clear HB; have HO_5 := n0_; have HO_6 := n1_; have HO_7 := n2_; have HB := n3_; clear n0_ n1_ n2_ n3_; (try clear hb); (try clear hb2); (try clear hk); (try clear hi); obtain ⟨Ao131, co131, eo131⟩ := Kd.R_slice HO_7.out; subst eo131) | ((with_reducible refine gate_callee (f := 20) rfl ?_); refine goesL_ (some 158) rfl rfl Try.func20 (by kernel_rfl) rfl #[.slice Ao131 t340.length co131] rfl (by (try simp only [List.map_toArray, List.map_cons, List.map_nil]); first | done | rfl | (simp only [List.length_drop, List.length_take]; rfl)) ?_; (with_reducible refine (impl_IsLyndon.calls kj51 _ _ t340 t365 false _ ?side1 ?side2 A58.out).mono ?_); (case side1 => repeat (first | exact (Kd.R_reads' HO_7.out).2.2 | (with_reducible refine Kd.C_alloc ?_ _) | (with_reducible refine Kd.C_drewN ?_ _) | (with_reducible refine Kd.C_drew ?_))); (case side2 => exact (Kd.R_reads' HO_7.out).2.1); rintro e w132 ⟨rfl, hb⟩; refine ⟨_, rfl, ?_⟩; have n0_ := Aside0.mk (Kd.R_below (by (with_reducible repeat (first | apply Kd.R_alloc | apply Kd.R_drewN | apply Kd.R_drew)); (first | exact HO_5.out | (have hz_ := HO_5.out; (try simp only [ob_] at hz_); (try simp only [ob_]); exact hz_))) hb); have n1_ := Aside0.mk (Kd.R_below (by (with_reducible repeat (first | apply Kd.R_alloc | apply Kd.R_drewN | apply Kd.R_drew)); (first | exact HO_6.out | (have hz_ := HO_6.out; (try simp only [ob_] at hz_); (try simp only [ob_]); exact hz_))) hb); have n2_ := Aside0.mk (Kd.R_below (by (with_reducible repeat (first | apply Kd.R_alloc | apply Kd.R_drewN | apply Kd.R_drew)); (first | exact HO_7.out | (have hz_ := HO_7.out; (try simp only [ob_] at hz_); (try simp only [ob_]); exact hz_))) hb); have n3_ := Aside0.mk (below_step (by repeat (first | (with_reducible first | exact HB.out | apply below_alloc | apply pw_below_drewN | apply below_drew1) | exact HB.out)) hb); clear HO_5; clear HO_6; clear HO_7; clear HB; have HO_5 := n0_; have HO_6 := n1_; have HO_7 := n2_; have HB := n3_; clear n0_ n1_ n2_ n3_; (try clear hb); (try clear hb2); (try clear hk); (try clear hi)) | ((with_reducible refine gate_callee (f := 42) rfl ?_); refine goesL_ (some 163) rfl rfl Try.func42 (by kernel_rfl) rfl #[.slice Ao129 t339.length co129] rfl (by (try simp only [List.map_toArray, List.map_cons, List.map_nil]); first | done | rfl | (simp only [List.length_drop, List.length_take]; rfl)) ?_; (with_reducible refine (impl_BracketText.calls kj51 _ _ t339 t367 t368 _ ?side1 ?side2 A59.out).mono ?_); (case side1 => repeat (first | exact (Kd.R_reads' HO_6.out).2.2 | (with_reducible refine Kd.C_alloc ?_ _) | (with_reducible refine Kd.C_drewN ?_ _) | (with_reducible refine Kd.C_drew ?_))); (case side2 => exact (Kd.R_reads' HO_6.out).2.1); rintro e w133 ⟨rfl, hb⟩; refine ⟨_, rfl, ?_⟩; have n0_ := Aside0.mk (Kd.R_below (by (with_reducible repeat (first | apply Kd.R_alloc | apply Kd.R_drewN | apply Kd.R_drew)); (first | exact HO_5.out | (have hz_ := HO_5.out; (try simp only [ob_] at hz_); (try simp only [ob_]); exact hz_))) hb); have n1_ := Aside0.mk (Kd.R_below (by (with_reducible repeat (first | apply Kd.R_alloc | apply Kd.R_drewN | apply Kd.R_drew)); (first | exact HO_6.out | (have hz_ := HO_6.out; (try simp only [ob_] at hz_); (try simp only [ob_]); exact hz_))) hb); have n2_ := Aside0.mk (Kd.R_below (by (with_reducible repeat (first | apply Kd.R_alloc | apply Kd.R_drewN | apply Kd.R_drew)); (first | exact HO_7.out | (have hz_ := HO_7.out; (try simp only [ob_] at hz_); (try simp only [ob_]); exact hz_))) hb); have n3_ := Aside0.mk (below_step (by repeat (first | (with_reducible first | exact HB.out | apply below_alloc | apply pw_below_drewN | apply below_drew1) | exact HB.out)) hb); clear HO_5; clear HO_6; clear HO_7; clear HB; have HO_5 := n0_; have HO_6 := n1_; have HO_7 := n2_; have HB := n3_; clear n0_ n1_ n2_ n3_; (try clear hb); (try clear hb2); (try clear hk); (try clear hi)) | ((with_reducible refine gate_callee (f := 42) rfl ?_); refine goesL_ (some 168) rfl rfl Try.func42 (by kernel_rfl) rfl #[.slice Ao131 t340.length co131] rfl (by (try simp only [List.map_toArray, List.map_cons, List.map_nil]); first | done | rfl | (simp only [List.length_drop, List.length_take]; rfl)) ?_; (with_reducible refine (impl_BracketText.calls kj51 _ _ t340 t369 t370 _ ?side1 ?side2 A60.out).mono ?_); (case side1 => repeat (first | exact (Kd.R_reads' HO_7.out).2.2 | (with_reducible refine Kd.C_alloc ?_ _) | (with_reducible refine Kd.C_drewN ?_ _) | (with_reducible refine Kd.C_drew ?_))); (case side2 => exact (Kd.R_reads' HO_7.out).2.1); rintro e w134 ⟨rfl, hb⟩; refine ⟨_, rfl, ?_⟩; have n0_ := Aside0.mk (Kd.R_below (by (with_reducible repeat (first | apply Kd.R_alloc | apply Kd.R_drewN | apply Kd.R_drew)); (first | exact HO_5.out | (have hz_ := HO_5.out; (try simp only [ob_] at hz_); (try simp only [ob_]); exact hz_))) hb); have n1_ := Aside0.mk (Kd.R_below (by (with_reducible repeat (first | apply Kd.R_alloc | apply Kd.R_drewN | apply Kd.R_drew)); (first | exact HO_6.out | (have hz_ := HO_6.out; (try simp only [ob_] at hz_); (try simp only [ob_]); exact hz_))) hb); have n2_ := Aside0.mk (Kd.R_below (by (with_reducible repeat (first | apply Kd.R_alloc | apply Kd.R_drewN | apply Kd.R_drew)); (first | exact HO_7.out | (have hz_ := HO_7.out; (try simp only [ob_] at hz_); (try simp only [ob_]); exact hz_))) hb); have n3_ := Aside0.mk (below_step (by repeat (first | (with_reducible first | exact HB.out | apply below_alloc | apply pw_below_drewN | apply below_drew1) | exact HB.out)) hb); clear HO_5; clear HO_6; clear HO_7; clear HB; have HO_5 := n0_; have HO_6 := n1_; have HO_7 := n2_; have HB := n3_; clear n0_ n1_ n2_ n3_; (try clear hb); (try clear hb2); (try clear hk); (try clear hi)))
                                      go_ret
                                      exact ⟨by first | rfl | (simp [errW_none, errW_some] <;> rfl) | (simp [*, errW_none, errW_some] <;> rfl), by repeat (first | (with_reducible first | exact HB.out | apply below_alloc | apply pw_below_drewN | apply below_drew1) | exact HB.out)⟩
                                · as_aux_lemma =>
                                    replace c61 := Bool.eq_false_iff.mpr c61
                                    subst c61
                                    have H1 : (some false) = some r := by rw [if_neg (show ¬ (false = true) by decide)] at H; exact H
                                    clear H
                                    have H := H1
                                    clear H1
                                    obtain rfl := Option.some.inj H
                                    obtain ⟨Ao135, co135, eo135⟩ := Kd.R_slice HO_6.out
                                    subst eo135
                                    go_wp2_with (first | ((with_reducible refine gate_callee (f := 20) rfl ?_); refine goesL_ (some 153) rfl rfl Try.func20 (by kernel_rfl) rfl #[.slice Ao135 t339.length co135] rfl (by (try simp only [List.map_toArray, List.map_cons, List.map_nil]); first | done | rfl | (simp only [List.length_drop, List.length_take]; rfl)) ?_; (with_reducible refine (impl_IsLyndon.calls kj51 _ _ t339 t363 false _ ?side1 ?side2 A57.out).mono ?_); (case side1 => repeat (first | exact (Kd.R_reads' HO_6.out).2.2 | (with_reducible refine Kd.C_alloc ?_ _) | (with_reducible refine Kd.C_drewN ?_ _) | (with_reducible refine Kd.C_drew ?_))); (case side2 => exact (Kd.R_reads' HO_6.out).2.1); rintro e w136 ⟨rfl, hb⟩; refine ⟨_, rfl, ?_⟩; have n0_ := Aside0.mk (Kd.R_below (by (with_reducible repeat (first | apply Kd.R_alloc | apply Kd.R_drewN | apply Kd.R_drew)); (first | exact HO_5.out | (have hz_ := HO_5.out; (try simp only [ob_] at hz_); (try simp only [ob_]); exact hz_))) hb); have n1_ := Aside0.mk (Kd.R_below (by (with_reducible repeat (first | apply Kd.R_alloc | apply Kd.R_drewN | apply Kd.R_drew)); (first | exact HO_6.out | (have hz_ := HO_6.out; (try simp only [ob_] at hz_); (try simp only [ob_]); exact hz_))) hb); have n2_ := Aside0.mk (Kd.R_below (by (with_reducible repeat (first | apply Kd.R_alloc | apply Kd.R_drewN | apply Kd.R_drew)); (first | exact HO_7.out | (have hz_ := HO_7.out; (try simp only [ob_] at hz_); (try simp only [ob_]); exact hz_))) hb); have n3_ := Aside0.mk (below_step (by repeat (first | (with_reducible first | exact HB.out | apply below_alloc | apply pw_below_drewN | apply below_drew1) | exact HB.out)) hb); clear HO_5; clear HO_6; clear HO_7; clear HB; have HO_5 := n0_; have HO_6 := n1_; have HO_7 := n2_; have HB := n3_; clear n0_ n1_ n2_ n3_; (try clear hb); (try clear hb2); (try clear hk); (try clear hi); obtain ⟨Ao137, co137, eo137⟩ := Kd.R_slice HO_7.out; subst eo137) | ((with_reducible refine gate_callee (f := 20) rfl ?_); refine goesL_ (some 158) rfl rfl Try.func20 (by kernel_rfl) rfl #[.slice Ao137 t340.length co137] rfl (by (try simp only [List.map_toArray, List.map_cons, List.map_nil]); first | done | rfl | (simp only [List.length_drop, List.length_take]; rfl)) ?_; (with_reducible refine (impl_IsLyndon.calls kj51 _ _ t340 t365 t366 _ ?side1 ?side2 A58.out).mono ?_); (case side1 => repeat (first | exact (Kd.R_reads' HO_7.out).2.2 | (with_reducible refine Kd.C_alloc ?_ _) | (with_reducible refine Kd.C_drewN ?_ _) | (with_reducible refine Kd.C_drew ?_))); (case side2 => exact (Kd.R_reads' HO_7.out).2.1); rintro e w138 ⟨rfl, hb⟩; refine ⟨_, rfl, ?_⟩; have n0_ := Aside0.mk (Kd.R_below (by (with_reducible repeat (first | apply Kd.R_alloc | apply Kd.R_drewN | apply Kd.R_drew)); (first | exact HO_5.out | (have hz_ := HO_5.out; (try simp only [ob_] at hz_); (try simp only [ob_]); exact hz_))) hb); have n1_ := Aside0.mk (Kd.R_below (by (with_reducible repeat (first | apply Kd.R_alloc | apply Kd.R_drewN | apply Kd.R_drew)); (first | exact HO_6.out | (have hz_ := HO_6.out; (try simp only [ob_] at hz_); (try simp only [ob_]); exact hz_))) hb); have n2_ := Aside0.mk (Kd.R_below (by (with_reducible repeat (first | apply Kd.R_alloc | apply Kd.R_drewN | apply Kd.R_drew)); (first | exact HO_7.out | (have hz_ := HO_7.out; (try simp only [ob_] at hz_); (try simp only [ob_]); exact hz_))) hb); have n3_ := Aside0.mk (below_step (by repeat (first | (with_reducible first | exact HB.out | apply below_alloc | apply pw_below_drewN | apply below_drew1) | exact HB.out)) hb); clear HO_5; clear HO_6; clear HO_7; clear HB; have HO_5 := n0_; have HO_6 := n1_; have HO_7 := n2_; have HB := n3_; clear n0_ n1_ n2_ n3_; (try clear hb); (try clear hb2); (try clear hk); (try clear hi)) | ((with_reducible refine gate_callee (f := 42) rfl ?_); refine goesL_ (some 163) rfl rfl Try.func42 (by kernel_rfl) rfl #[.slice Ao135 t339.length co135] rfl (by (try simp only [List.map_toArray, List.map_cons, List.map_nil]); first | done | rfl | (simp only [List.length_drop, List.length_take]; rfl)) ?_; (with_reducible refine (impl_BracketText.calls kj51 _ _ t339 t367 t368 _ ?side1 ?side2 A59.out).mono ?_); (case side1 => repeat (first | exact (Kd.R_reads' HO_6.out).2.2 | (with_reducible refine Kd.C_alloc ?_ _) | (with_reducible refine Kd.C_drewN ?_ _) | (with_reducible refine Kd.C_drew ?_))); (case side2 => exact (Kd.R_reads' HO_6.out).2.1); rintro e w139 ⟨rfl, hb⟩; refine ⟨_, rfl, ?_⟩; have n0_ := Aside0.mk (Kd.R_below (by (with_reducible repeat (first | apply Kd.R_alloc | apply Kd.R_drewN | apply Kd.R_drew)); (first | exact HO_5.out | (have hz_ := HO_5.out; (try simp only [ob_] at hz_); (try simp only [ob_]); exact hz_))) hb); have n1_ := Aside0.mk (Kd.R_below (by (with_reducible repeat (first | apply Kd.R_alloc | apply Kd.R_drewN | apply Kd.R_drew)); (first | exact HO_6.out | (have hz_ := HO_6.out; (try simp only [ob_] at hz_); (try simp only [ob_]); exact hz_))) hb); have n2_ := Aside0.mk (Kd.R_below (by (with_reducible repeat (first | apply Kd.R_alloc | apply Kd.R_drewN | apply Kd.R_drew)); (first | exact HO_7.out | (have hz_ := HO_7.out; (try simp only [ob_] at hz_); (try simp only [ob_]); exact hz_))) hb); have n3_ := Aside0.mk (below_step (by repeat (first | (with_reducible first | exact HB.out | apply below_alloc | apply pw_below_drewN | apply below_drew1) | exact HB.out)) hb); clear HO_5; clear HO_6; clear HO_7; clear HB; have HO_5 := n0_; have HO_6 := n1_; have HO_7 := n2_; have HB := n3_; clear n0_ n1_ n2_ n3_; (try clear hb); (try clear hb2); (try clear hk); (try clear hi)) | ((with_reducible refine gate_callee (f := 42) rfl ?_); refine goesL_ (some 168) rfl rfl Try.func42 (by kernel_rfl) rfl #[.slice Ao137 t340.length co137] rfl (by (try simp only [List.map_toArray, List.map_cons, List.map_nil]); first | done | rfl | (simp only [List.length_drop, List.length_take]; rfl)) ?_; (with_reducible refine (impl_BracketText.calls kj51 _ _ t340 t369 t370 _ ?side1 ?side2 A60.out).mono ?_); (case side1 => repeat (first | exact (Kd.R_reads' HO_7.out).2.2 | (with_reducible refine Kd.C_alloc ?_ _) | (with_reducible refine Kd.C_drewN ?_ _) | (with_reducible refine Kd.C_drew ?_))); (case side2 => exact (Kd.R_reads' HO_7.out).2.1); rintro e w140 ⟨rfl, hb⟩; refine ⟨_, rfl, ?_⟩; have n0_ := Aside0.mk (Kd.R_below (by (with_reducible repeat (first | apply Kd.R_alloc | apply Kd.R_drewN | apply Kd.R_drew)); (first | exact HO_5.out | (have hz_ := HO_5.out; (try simp only [ob_] at hz_); (try simp only [ob_]); exact hz_))) hb); have n1_ := Aside0.mk (Kd.R_below (by (with_reducible repeat (first | apply Kd.R_alloc | apply Kd.R_drewN | apply Kd.R_drew)); (first | exact HO_6.out | (have hz_ := HO_6.out; (try simp only [ob_] at hz_); (try simp only [ob_]); exact hz_))) hb); have n2_ := Aside0.mk (Kd.R_below (by (with_reducible repeat (first | apply Kd.R_alloc | apply Kd.R_drewN | apply Kd.R_drew)); (first | exact HO_7.out | (have hz_ := HO_7.out; (try simp only [ob_] at hz_); (try simp only [ob_]); exact hz_))) hb); have n3_ := Aside0.mk (below_step (by repeat (first | (with_reducible first | exact HB.out | apply below_alloc | apply pw_below_drewN | apply below_drew1) | exact HB.out)) hb); clear HO_5; clear HO_6; clear HO_7; clear HB; have HO_5 := n0_; have HO_6 := n1_; have HO_7 := n2_; have HB := n3_; clear n0_ n1_ n2_ n3_; (try clear hb); (try clear hb2); (try clear hk); (try clear hi)))
                                    go_ret
                                    exact ⟨by first | rfl | (simp [errW_none, errW_some] <;> rfl) | (simp [*, errW_none, errW_some] <;> rfl), by repeat (first | (with_reducible first | exact HB.out | apply below_alloc | apply pw_below_drewN | apply below_drew1) | exact HB.out)⟩
                              · as_aux_lemma =>
                                  replace c56 := Bool.eq_false_iff.mpr c56
                                  subst c56
                                  have H1 : (some true) = some r := by rw [if_neg (show ¬ (false = true) by decide)] at H; exact H
                                  clear H
                                  have H := H1
                                  clear H1
                                  obtain rfl := Option.some.inj H
                                  go_wp2
                                  go_ret
                                  exact ⟨by first | rfl | (simp [errW_none, errW_some] <;> rfl) | (simp [*, errW_none, errW_some] <;> rfl), by repeat (first | (with_reducible first | exact HB.out | apply below_alloc | apply pw_below_drewN | apply below_drew1) | exact HB.out)⟩
                · as_aux_lemma =>
                    replace c39 := Bool.eq_false_iff.mpr c39
                    subst c39
                    have H1 : (some true) = some r := by rw [if_neg (show ¬ (false = true) by decide)] at H; exact H
                    clear H
                    have H := H1
                    clear H1
                    obtain rfl := Option.some.inj H
                    go_wp2
                    go_ret
                    exact ⟨by first | rfl | (simp [errW_none, errW_some] <;> rfl) | (simp [*, errW_none, errW_some] <;> rfl), by repeat (first | (with_reducible first | exact HB.out | apply below_alloc | apply pw_below_drewN | apply below_drew1) | exact HB.out)⟩

/-- THE ONE PURE STATEMENT of laws_FnStandardFactors: yours. -/
def laws_FnStandardFactors.Pure : Prop := ∀ (l0 : List Int) (l1 : List Int), l0.length ≤ maxLen → l0.length * 1 ≤ 140737488351232 → (∀ x ∈ l0, (Lit.int .u8 x).wf = true) → l1.length ≤ maxLen → l1.length * 1 ≤ 140737488351232 → (∀ x ∈ l1, (Lit.int .u8 x).wf = true) → ∃ k, laws_FnStandardFactors.f k l0 l1 = some true
theorem laws_FnStandardFactors.walk (P : laws_FnStandardFactors.Pure) (a0 : Option Addr) (len0 cap0 : Nat) (z0 : List Int) (a1 : Option Addr) (len1 cap1 : Nat) (z1 : List Int) (w : World) (w0 : (a0 = none ∧ len0 = 0 ∧ cap0 = 0 ∧ z0 = []) ∨ ∃ x, a0 = some x ∧ len0 ≤ cap0 ∧ cap0 ≤ maxLen ∧ z0.length = cap0 ∧ (∀ i, i < z0.length → w.cell? (x.add i) = some (.int .u8 (z0.getD i 0))) ∧ ∀ n ∈ z0, (Lit.int .u8 n).wf = true) (y0 : len0 * 1 ≤ 140737488351232) (w1 : (a1 = none ∧ len1 = 0 ∧ cap1 = 0 ∧ z1 = []) ∨ ∃ x, a1 = some x ∧ len1 ≤ cap1 ∧ cap1 ≤ maxLen ∧ z1.length = cap1 ∧ (∀ i, i < z1.length → w.cell? (x.add i) = some (.int .u8 (z1.getD i 0))) ∧ ∀ n ∈ z1, (Lit.int .u8 n).wf = true) (y1 : len1 * 1 ≤ 140737488351232) :
    Calls Try.prog 10 #[.slice a0 len0 cap0, .slice a1 len1 cap1] w fun e w' => e = .returned (.bool true) ∧ Below w.heap.size w w' := by
  obtain ⟨l0, rfl, hr0, hm0, hw0, hc0⟩ := ReadsInt.ofRowC w0
  obtain ⟨l1, rfl, hr1, hm1, hw1, hc1⟩ := ReadsInt.ofRowC w1
  obtain ⟨k, h⟩ := P l0 l1 hm0 y0 hw0 hm1 y1 hw1
  refine (laws_FnStandardFactors.calls k _ _ l0 _ _ l1 true w (Kd.C_of_reads (d := (0 : Int)) (h1 := fun _ => rfl) hr0) hc0 (Kd.C_of_reads (d := (0 : Int)) (h1 := fun _ => rfl) hr1) hc1 h).mono ?_
  rintro e w' ⟨rfl, hd⟩
  exact ⟨rfl, hd⟩

end Go.Proofs.Ytaaoeaojimjikaa.HFnStandardFactors
