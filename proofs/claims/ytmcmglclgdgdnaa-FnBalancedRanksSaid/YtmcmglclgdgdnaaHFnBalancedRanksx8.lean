/- Written by this session's program hprint.py out of the loaded functions: what each function computes, and the proof that the machine's call does just that. -/
import Derived.Test.YtmcmglclgdgdnaaHFnBalancedRanksx0
import Derived.Test.YtmcmglclgdgdnaaHFnBalancedRanksx1
import Derived.Test.YtmcmglclgdgdnaaHFnBalancedRanksx2
import Derived.Test.YtmcmglclgdgdnaaHFnBalancedRanksx3
import Derived.Test.YtmcmglclgdgdnaaHFnBalancedRanksx4
import Derived.Test.YtmcmglclgdgdnaaHFnBalancedRanksx5
import Derived.Test.YtmcmglclgdgdnaaHFnBalancedRanksx6
import Derived.Test.YtmcmglclgdgdnaaHFnBalancedRanksx7
namespace Go.Proofs.Ytmcmglclgdgdnaa.HFnBalancedRanks
open Go.RowKit Go.Proofs.YtmcmglclgdgdnaaW.PrintWords Go.Proofs.YtmcmglclgdgdnaaW.PrintLast Go.Proofs.YtmcmglclgdgdnaaW.PrintMore
attribute [local go_sem] max2_int min2_int max_two min_two max_three min_three max_four min_four   -- for this text's walks alone
set_option linter.unusedVariables false
set_option linter.unusedSimpArgs false

/-! ### laws_FnBalancedRanks: function 11 -/
mutual
def laws_FnBalancedRanks.j0 : Nat → Int → Int → List Int → Bool → Bool → Option (Bool)
  | 0, _, _, _, _, _ => none
  | k + 1, x5, x6, x7, x8, x53 => if x53 = true then (some false) else ((impl_CountBalanced.f k x5).bind fun bt307 => ((spec_CountBalanced.f k x5).bind fun bt309 => (if (bt307.2 != bt309.2) = true then (laws_FnBalancedRanks.j1 k x5 x6 x7 x8 bt307.1 true) else (if bt307.1 = bt309.1 then (if bt307.2 = true then (if x6 ≥ 0 then (laws_FnBalancedRanks.j1 k x5 x6 x7 x8 bt307.1 (x8 != (decide (x6 < bt307.1)))) else (laws_FnBalancedRanks.j1 k x5 x6 x7 x8 bt307.1 (x8 != false))) else (laws_FnBalancedRanks.j1 k x5 x6 x7 x8 bt307.1 (x8 != false))) else (laws_FnBalancedRanks.j1 k x5 x6 x7 x8 bt307.1 true)))))
def laws_FnBalancedRanks.j1 : Nat → Int → Int → List Int → Bool → Int → Bool → Option (Bool)
  | 0, _, _, _, _, _, _ => none
  | k + 1, x5, x6, x7, x8, x11, x85 => if x85 = true then (some false) else (if x8 = true then ((impl_RankBalanced.f k x7).bind fun bt311 => ((impl_BalancedWith.f k x5 (wrap64 (x6 + 1))).bind fun bt313 => (if bt311.2 = true then (if bt311.1 = x6 then ((impl_IsBalancedWord.f k x7).bind fun t317 => (if t317 = true then (if (x7.length : Int) = (wrap64 (2 * x5)) then (if (bt313.2 != (decide ((wrap64 (x6 + 1)) < x11))) = true then (laws_FnBalancedRanks.j2 k x5 x7 true) else (if bt313.2 = true then ((laws_tLess.f k x7 bt313.1).bind fun t318 => (laws_FnBalancedRanks.j2 k x5 x7 (!t318))) else (laws_FnBalancedRanks.j2 k x5 x7 false))) else (laws_FnBalancedRanks.j2 k x5 x7 true)) else (laws_FnBalancedRanks.j2 k x5 x7 true))) else (laws_FnBalancedRanks.j2 k x5 x7 true)) else (laws_FnBalancedRanks.j2 k x5 x7 true)))) else (some true))
def laws_FnBalancedRanks.j2 : Nat → Int → List Int → Bool → Option (Bool)
  | 0, _, _, _ => none
  | k + 1, x5, x7, x135 => if x135 = true then (some false) else ((impl_GrowthOfWord.f k x7).bind fun bt319 => (if x5 = 0 then (some (!bt319.2)) else ((impl_HasCrossing.f k bt319.1).bind fun bt323 => ((impl_WordOfGrowth.f k bt319.1).bind fun bt325 => (if bt319.2 = true then (if bt323.2 = true then (if bt325.2 = true then (if bt323.1 = true then (some false) else ((laws_tSame.f k bt325.1 x7).bind fun t329 => (some t329))) else (some false)) else (some false)) else (some false))))))
end
def laws_FnBalancedRanks.f (k : Nat) (l0 : List Int) (l1 : List Int) : Option (Bool) := (laws_big.f l0 l1).bind fun t295 => (if t295 = true then (some true) else ((spec_DrawBalancedWith.f k l0).bind fun bt296 => ((impl_BalancedWith.f k bt296.1 bt296.2).bind fun bt298 => ((spec_BalancedWith.f k bt296.1 bt296.2).bind fun bt302 => (if (bt298.2 != bt302.2) = true then (laws_FnBalancedRanks.j0 k bt296.1 bt296.2 bt298.1 bt298.2 true) else ((laws_tSame.f k bt298.1 bt302.1).bind fun t306 => (laws_FnBalancedRanks.j0 k bt296.1 bt296.2 bt298.1 bt298.2 (!t306))))))))
theorem laws_FnBalancedRanks.mono_l : ∀ k, (∀ y0 y1 y2 y3 y4, LeO (laws_FnBalancedRanks.j0 k y0 y1 y2 y3 y4) (laws_FnBalancedRanks.j0 (k + 1) y0 y1 y2 y3 y4)) ∧ (∀ y0 y1 y2 y3 y4 y5, LeO (laws_FnBalancedRanks.j1 k y0 y1 y2 y3 y4 y5) (laws_FnBalancedRanks.j1 (k + 1) y0 y1 y2 y3 y4 y5)) ∧ (∀ y0 y1 y2, LeO (laws_FnBalancedRanks.j2 k y0 y1 y2) (laws_FnBalancedRanks.j2 (k + 1) y0 y1 y2))
  | 0 => ⟨fun _ _ _ _ _ r h => by simp [laws_FnBalancedRanks.j0] at h, fun _ _ _ _ _ _ r h => by simp [laws_FnBalancedRanks.j1] at h, fun _ _ _ r h => by simp [laws_FnBalancedRanks.j2] at h⟩
  | k + 1 => by
    obtain ⟨ih0, ih1, ih2⟩ := laws_FnBalancedRanks.mono_l k
    refine ⟨?_, ?_, ?_⟩
    · intro y0 y1 y2 y3 y4
      unfold laws_FnBalancedRanks.j0
      repeat' first
      | (with_reducible exact ih0 _ _ _ _ _)
      | (with_reducible exact ih1 _ _ _ _ _ _)
      | (with_reducible exact ih2 _ _ _)
      | (with_reducible exact impl_BalancedWith.mono _ _ _)
      | (with_reducible exact impl_CountBalanced.mono _ _)
      | (with_reducible exact impl_GrowthOfWord.mono _ _)
      | (with_reducible exact impl_HasCrossing.mono _ _)
      | (with_reducible exact impl_IsBalancedWord.mono _ _)
      | (with_reducible exact impl_RankBalanced.mono _ _)
      | (with_reducible exact impl_WordOfGrowth.mono _ _)
      | (with_reducible exact laws_tLess.mono _ _ _)
      | (with_reducible exact laws_tSame.mono _ _ _)
      | (with_reducible exact spec_BalancedWith.mono _ _ _)
      | (with_reducible exact spec_CountBalanced.mono _ _)
      | (with_reducible exact spec_DrawBalancedWith.mono _ _)
      | (with_reducible exact LeO.refl _)
      | (with_reducible exact LeO.none _)
      | (with_reducible refine LeO.ite ?_ ?_)
      | (with_reducible refine LeO.bind ?_ (fun _ => ?_))
      | exact ih0 _ _ _ _ _
      | exact ih1 _ _ _ _ _ _
      | exact ih2 _ _ _
      | exact impl_BalancedWith.mono _ _ _
      | exact impl_CountBalanced.mono _ _
      | exact impl_GrowthOfWord.mono _ _
      | exact impl_HasCrossing.mono _ _
      | exact impl_IsBalancedWord.mono _ _
      | exact impl_RankBalanced.mono _ _
      | exact impl_WordOfGrowth.mono _ _
      | exact laws_tLess.mono _ _ _
      | exact laws_tSame.mono _ _ _
      | exact spec_BalancedWith.mono _ _ _
      | exact spec_CountBalanced.mono _ _
      | exact spec_DrawBalancedWith.mono _ _
      | exact LeO.none _
      | refine LeO.ite ?_ ?_
      | refine LeO.bind ?_ (fun _ => ?_)
    · intro y0 y1 y2 y3 y4 y5
      unfold laws_FnBalancedRanks.j1
      repeat' first
      | (with_reducible exact ih0 _ _ _ _ _)
      | (with_reducible exact ih1 _ _ _ _ _ _)
      | (with_reducible exact ih2 _ _ _)
      | (with_reducible exact impl_BalancedWith.mono _ _ _)
      | (with_reducible exact impl_CountBalanced.mono _ _)
      | (with_reducible exact impl_GrowthOfWord.mono _ _)
      | (with_reducible exact impl_HasCrossing.mono _ _)
      | (with_reducible exact impl_IsBalancedWord.mono _ _)
      | (with_reducible exact impl_RankBalanced.mono _ _)
      | (with_reducible exact impl_WordOfGrowth.mono _ _)
      | (with_reducible exact laws_tLess.mono _ _ _)
      | (with_reducible exact laws_tSame.mono _ _ _)
      | (with_reducible exact spec_BalancedWith.mono _ _ _)
      | (with_reducible exact spec_CountBalanced.mono _ _)
      | (with_reducible exact spec_DrawBalancedWith.mono _ _)
      | (with_reducible exact LeO.refl _)
      | (with_reducible exact LeO.none _)
      | (with_reducible refine LeO.ite ?_ ?_)
      | (with_reducible refine LeO.bind ?_ (fun _ => ?_))
      | exact ih0 _ _ _ _ _
      | exact ih1 _ _ _ _ _ _
      | exact ih2 _ _ _
      | exact impl_BalancedWith.mono _ _ _
      | exact impl_CountBalanced.mono _ _
      | exact impl_GrowthOfWord.mono _ _
      | exact impl_HasCrossing.mono _ _
      | exact impl_IsBalancedWord.mono _ _
      | exact impl_RankBalanced.mono _ _
      | exact impl_WordOfGrowth.mono _ _
      | exact laws_tLess.mono _ _ _
      | exact laws_tSame.mono _ _ _
      | exact spec_BalancedWith.mono _ _ _
      | exact spec_CountBalanced.mono _ _
      | exact spec_DrawBalancedWith.mono _ _
      | exact LeO.none _
      | refine LeO.ite ?_ ?_
      | refine LeO.bind ?_ (fun _ => ?_)
    · intro y0 y1 y2
      unfold laws_FnBalancedRanks.j2
      repeat' first
      | (with_reducible exact ih0 _ _ _ _ _)
      | (with_reducible exact ih1 _ _ _ _ _ _)
      | (with_reducible exact ih2 _ _ _)
      | (with_reducible exact impl_BalancedWith.mono _ _ _)
      | (with_reducible exact impl_CountBalanced.mono _ _)
      | (with_reducible exact impl_GrowthOfWord.mono _ _)
      | (with_reducible exact impl_HasCrossing.mono _ _)
      | (with_reducible exact impl_IsBalancedWord.mono _ _)
      | (with_reducible exact impl_RankBalanced.mono _ _)
      | (with_reducible exact impl_WordOfGrowth.mono _ _)
      | (with_reducible exact laws_tLess.mono _ _ _)
      | (with_reducible exact laws_tSame.mono _ _ _)
      | (with_reducible exact spec_BalancedWith.mono _ _ _)
      | (with_reducible exact spec_CountBalanced.mono _ _)
      | (with_reducible exact spec_DrawBalancedWith.mono _ _)
      | (with_reducible exact LeO.refl _)
      | (with_reducible exact LeO.none _)
      | (with_reducible refine LeO.ite ?_ ?_)
      | (with_reducible refine LeO.bind ?_ (fun _ => ?_))
      | exact ih0 _ _ _ _ _
      | exact ih1 _ _ _ _ _ _
      | exact ih2 _ _ _
      | exact impl_BalancedWith.mono _ _ _
      | exact impl_CountBalanced.mono _ _
      | exact impl_GrowthOfWord.mono _ _
      | exact impl_HasCrossing.mono _ _
      | exact impl_IsBalancedWord.mono _ _
      | exact impl_RankBalanced.mono _ _
      | exact impl_WordOfGrowth.mono _ _
      | exact laws_tLess.mono _ _ _
      | exact laws_tSame.mono _ _ _
      | exact spec_BalancedWith.mono _ _ _
      | exact spec_CountBalanced.mono _ _
      | exact spec_DrawBalancedWith.mono _ _
      | exact LeO.none _
      | refine LeO.ite ?_ ?_
      | refine LeO.bind ?_ (fun _ => ?_)
theorem laws_FnBalancedRanks.mono : ∀ a0 a1 k, LeO (laws_FnBalancedRanks.f k a0 a1) (laws_FnBalancedRanks.f (k + 1) a0 a1) := by
  intro a0 a1 k
  obtain ⟨ih0, ih1, ih2⟩ := laws_FnBalancedRanks.mono_l k
  unfold laws_FnBalancedRanks.f
  repeat' first
      | (with_reducible exact ih0 _ _ _ _ _)
      | (with_reducible exact ih1 _ _ _ _ _ _)
      | (with_reducible exact ih2 _ _ _)
      | (with_reducible exact impl_BalancedWith.mono _ _ _)
      | (with_reducible exact impl_CountBalanced.mono _ _)
      | (with_reducible exact impl_GrowthOfWord.mono _ _)
      | (with_reducible exact impl_HasCrossing.mono _ _)
      | (with_reducible exact impl_IsBalancedWord.mono _ _)
      | (with_reducible exact impl_RankBalanced.mono _ _)
      | (with_reducible exact impl_WordOfGrowth.mono _ _)
      | (with_reducible exact laws_tLess.mono _ _ _)
      | (with_reducible exact laws_tSame.mono _ _ _)
      | (with_reducible exact spec_BalancedWith.mono _ _ _)
      | (with_reducible exact spec_CountBalanced.mono _ _)
      | (with_reducible exact spec_DrawBalancedWith.mono _ _)
      | (with_reducible exact LeO.refl _)
      | (with_reducible exact LeO.none _)
      | (with_reducible refine LeO.ite ?_ ?_)
      | (with_reducible refine LeO.bind ?_ (fun _ => ?_))
      | exact ih0 _ _ _ _ _
      | exact ih1 _ _ _ _ _ _
      | exact ih2 _ _ _
      | exact impl_BalancedWith.mono _ _ _
      | exact impl_CountBalanced.mono _ _
      | exact impl_GrowthOfWord.mono _ _
      | exact impl_HasCrossing.mono _ _
      | exact impl_IsBalancedWord.mono _ _
      | exact impl_RankBalanced.mono _ _
      | exact impl_WordOfGrowth.mono _ _
      | exact laws_tLess.mono _ _ _
      | exact laws_tSame.mono _ _ _
      | exact spec_BalancedWith.mono _ _ _
      | exact spec_CountBalanced.mono _ _
      | exact spec_DrawBalancedWith.mono _ _
      | exact LeO.none _
      | refine LeO.ite ?_ ?_
      | refine LeO.bind ?_ (fun _ => ?_)
set_option maxHeartbeats 8000000 in
set_option maxRecDepth 100000 in
theorem laws_FnBalancedRanks.calls (k : Nat) (A0 : Option Addr) (c0 : Nat) (l0 : List Int) (A1 : Option Addr) (c1 : Nat) (l1 : List Int) (r : Bool) (w : World) (hr0 : Kd.C (Kd.int .u8) w A0 l0.length l0) (hc0 : l0.length ≤ c0) (hr1 : Kd.C (Kd.int .u8) w A1 l1.length l1) (hc1 : l1.length ≤ c1) (h : laws_FnBalancedRanks.f k l0 l1 = some r) :
    Calls Try.prog 11 #[.slice A0 l0.length c0, .slice A1 l1.length c1] w fun e w' => e = .returned (.bool r) ∧ Below w.heap.size w w' := by
  have HR0 := Aside0.mk hr0
  have HC0 := Aside0.mk hc0
  clear hr0 hc0
  have HR1 := Aside0.mk hr1
  have HC1 := Aside0.mk hc1
  clear hr1 hc1
  have HB := Aside0.mk (Below.refl w.heap.size w)
  have H : ((laws_big.f l0 l1).bind fun t295 => (if t295 = true then (some true) else ((spec_DrawBalancedWith.f k l0).bind fun bt296 => ((impl_BalancedWith.f k bt296.1 bt296.2).bind fun bt298 => ((spec_BalancedWith.f k bt296.1 bt296.2).bind fun bt302 => (if (bt298.2 != bt302.2) = true then (laws_FnBalancedRanks.j0 k bt296.1 bt296.2 bt298.1 bt298.2 true) else ((laws_tSame.f k bt298.1 bt302.1).bind fun t306 => (laws_FnBalancedRanks.j0 k bt296.1 bt296.2 bt298.1 bt298.2 (!t306))))))))) = some r := h
  clear h
  replace H := Option.bind_eq_some_iff.mp H
  obtain ⟨t295, A30, H⟩ := H
  replace H : (if t295 = true then (some true) else ((spec_DrawBalancedWith.f k l0).bind fun bt296 => ((impl_BalancedWith.f k bt296.1 bt296.2).bind fun bt298 => ((spec_BalancedWith.f k bt296.1 bt296.2).bind fun bt302 => (if (bt298.2 != bt302.2) = true then (laws_FnBalancedRanks.j0 k bt296.1 bt296.2 bt298.1 bt298.2 true) else ((laws_tSame.f k bt298.1 bt302.1).bind fun t306 => (laws_FnBalancedRanks.j0 k bt296.1 bt296.2 bt298.1 bt298.2 (!t306)))))))) = some r := H
  have A3 := Aside0.mk A30
  clear A30
  by_cases c4 : t295 = true
  · subst c4
    have H1 : (some true) = some r := by rw [if_pos rfl] at H; exact H
    clear H
    have H := H1
    clear H1
    obtain rfl := Option.some.inj H
    go_enter Try.func11, Try.ntmps11
    go_wp2_with (first | ((with_reducible refine gate_callee (f := 15) rfl ?_); refine goesL_ (some 27) rfl rfl Try.func15 (by kernel_rfl) rfl #[.slice A0 l0.length c0, .slice A1 l1.length c1] rfl (by (try simp only [List.map_toArray, List.map_cons, List.map_nil]); first | done | rfl | (simp only [List.length_drop, List.length_take]; rfl)) ?_; (with_reducible refine (laws_big.calls _ _ l0 _ _ l1 true _ ?side1 ?side2 ?side3 ?side4 A3.out).mono ?_); (case side1 => repeat (first | exact HR0.out | (with_reducible refine Kd.C_alloc ?_ _) | (with_reducible refine Kd.C_drewN ?_ _) | (with_reducible refine Kd.C_drew ?_))); (case side2 => exact HC0.out); (case side3 => repeat (first | exact HR1.out | (with_reducible refine Kd.C_alloc ?_ _) | (with_reducible refine Kd.C_drewN ?_ _) | (with_reducible refine Kd.C_drew ?_))); (case side4 => exact HC1.out); rintro e w' ⟨rfl, ⟨nd, rfl⟩⟩; refine ⟨_, rfl, ?_⟩))
    go_ret
    exact ⟨by first | rfl | (simp [errW_none, errW_some] <;> rfl) | (simp [*, errW_none, errW_some] <;> rfl), by repeat (first | (with_reducible first | exact HB.out | apply below_alloc | apply pw_below_drewN | apply below_drew1) | exact HB.out)⟩
  · replace c4 := Bool.eq_false_iff.mpr c4
    subst c4
    have H1 : ((spec_DrawBalancedWith.f k l0).bind fun bt296 => ((impl_BalancedWith.f k bt296.1 bt296.2).bind fun bt298 => ((spec_BalancedWith.f k bt296.1 bt296.2).bind fun bt302 => (if (bt298.2 != bt302.2) = true then (laws_FnBalancedRanks.j0 k bt296.1 bt296.2 bt298.1 bt298.2 true) else ((laws_tSame.f k bt298.1 bt302.1).bind fun t306 => (laws_FnBalancedRanks.j0 k bt296.1 bt296.2 bt298.1 bt298.2 (!t306))))))) = some r := by rw [if_neg (show ¬ (false = true) by decide)] at H; exact H
    clear H
    have H := H1
    clear H1
    replace H := Option.bind_eq_some_iff.mp H
    obtain ⟨⟨t296, t297⟩, A50, H⟩ := H
    replace H : ((impl_BalancedWith.f k t296 t297).bind fun bt298 => ((spec_BalancedWith.f k t296 t297).bind fun bt302 => (if (bt298.2 != bt302.2) = true then (laws_FnBalancedRanks.j0 k t296 t297 bt298.1 bt298.2 true) else ((laws_tSame.f k bt298.1 bt302.1).bind fun t306 => (laws_FnBalancedRanks.j0 k t296 t297 bt298.1 bt298.2 (!t306)))))) = some r := H
    have A5 := Aside0.mk A50
    clear A50
    replace H := Option.bind_eq_some_iff.mp H
    obtain ⟨⟨t298, t299⟩, A60, H⟩ := H
    replace H : ((spec_BalancedWith.f k t296 t297).bind fun bt302 => (if (t299 != bt302.2) = true then (laws_FnBalancedRanks.j0 k t296 t297 t298 t299 true) else ((laws_tSame.f k t298 bt302.1).bind fun t306 => (laws_FnBalancedRanks.j0 k t296 t297 t298 t299 (!t306))))) = some r := H
    have A6 := Aside0.mk A60
    clear A60
    replace H := Option.bind_eq_some_iff.mp H
    obtain ⟨⟨t302, t303⟩, A70, H⟩ := H
    replace H : (if (t299 != t303) = true then (laws_FnBalancedRanks.j0 k t296 t297 t298 t299 true) else ((laws_tSame.f k t298 t302).bind fun t306 => (laws_FnBalancedRanks.j0 k t296 t297 t298 t299 (!t306)))) = some r := H
    have A7 := Aside0.mk A70
    clear A70
    have HC8 := Aside0.mk H
    clear H
    go_enter Try.func11, Try.ntmps11
    go_upto_region 6 with (first | ((with_reducible refine gate_callee (f := 15) rfl ?_); refine goesL_ (some 27) rfl rfl Try.func15 (by kernel_rfl) rfl #[.slice A0 l0.length c0, .slice A1 l1.length c1] rfl (by (try simp only [List.map_toArray, List.map_cons, List.map_nil]); first | done | rfl | (simp only [List.length_drop, List.length_take]; rfl)) ?_; (with_reducible refine (laws_big.calls _ _ l0 _ _ l1 false _ ?side1 ?side2 ?side3 ?side4 A3.out).mono ?_); (case side1 => repeat (first | exact HR0.out | (with_reducible refine Kd.C_alloc ?_ _) | (with_reducible refine Kd.C_drewN ?_ _) | (with_reducible refine Kd.C_drew ?_))); (case side2 => exact HC0.out); (case side3 => repeat (first | exact HR1.out | (with_reducible refine Kd.C_alloc ?_ _) | (with_reducible refine Kd.C_drewN ?_ _) | (with_reducible refine Kd.C_drew ?_))); (case side4 => exact HC1.out); rintro e w' ⟨rfl, ⟨nd, rfl⟩⟩; refine ⟨_, rfl, ?_⟩) | ((with_reducible refine gate_callee (f := 56) rfl ?_); refine goesL_ (some 30) rfl rfl Try.func56 (by kernel_rfl) rfl #[.slice A0 l0.length c0] rfl (by (try simp only [List.map_toArray, List.map_cons, List.map_nil]); first | done | rfl | (simp only [List.length_drop, List.length_take]; rfl)) ?_; (with_reducible refine (spec_DrawBalancedWith.calls k _ _ l0 t296 t297 _ ?side1 ?side2 A5.out).mono ?_); (case side1 => repeat (first | exact HR0.out | (with_reducible refine Kd.C_alloc ?_ _) | (with_reducible refine Kd.C_drewN ?_ _) | (with_reducible refine Kd.C_drew ?_))); (case side2 => exact HC0.out); rintro e w9 ⟨rfl, hb⟩; refine ⟨_, rfl, ?_⟩; have n0_ := Aside0.mk (below_step (by repeat (first | (with_reducible first | exact HB.out | apply below_alloc | apply pw_below_drewN | apply below_drew1) | exact HB.out)) hb); clear HB; have HB := n0_; clear n0_; (try clear hb); (try clear hb2); (try clear hk); (try clear hi)) | ((with_reducible refine gate_callee (f := 57) rfl ?_); refine goesL_ (some 36) rfl rfl Try.func57 (by kernel_rfl) rfl #[.int .i64 t296, .int .i64 t297] rfl (by (try simp only [List.map_toArray, List.map_cons, List.map_nil]); first | done | rfl | (simp only [List.length_drop, List.length_take]; rfl)) ?_; (with_reducible refine (impl_BalancedWith.calls k t296 t297 t298 t299 _ A6.out).mono ?_); rintro e w10 ⟨v300, rfl, ho0, hb⟩; refine ⟨_, rfl, ?_⟩; have n0_ := Aside0.mk (Kd.R_lower ho0 (below_size (by repeat (first | (with_reducible first | exact HB.out | apply below_alloc | apply pw_below_drewN | apply below_drew1) | exact HB.out)))); have n1_ := Aside0.mk (below_step (by repeat (first | (with_reducible first | exact HB.out | apply below_alloc | apply pw_below_drewN | apply below_drew1) | exact HB.out)) hb); clear HB; have HO301 := n0_; have HB := n1_; clear n0_ n1_; (try clear hb); (try clear hb2); (try clear hk); (try clear hi); (try clear ho0)) | ((with_reducible refine gate_callee (f := 58) rfl ?_); refine goesL_ (some 42) rfl rfl Try.func58 (by kernel_rfl) rfl #[.int .i64 t296, .int .i64 t297] rfl (by (try simp only [List.map_toArray, List.map_cons, List.map_nil]); first | done | rfl | (simp only [List.length_drop, List.length_take]; rfl)) ?_; (with_reducible refine (spec_BalancedWith.calls k t296 t297 t302 t303 _ A7.out).mono ?_); rintro e w11 ⟨v304, rfl, ho0, hb⟩; refine ⟨_, rfl, ?_⟩; have n0_ := Aside0.mk (Kd.R_elder' (by (with_reducible repeat (first | apply Kd.R_alloc | apply Kd.R_drewN | apply Kd.R_drew)); (first | exact HO301.out | (have hz_ := HO301.out; (try simp only [ob_] at hz_); (try simp only [ob_]); exact hz_))) (Kd.R_base ho0) hb); have n1_ := Aside0.mk (Kd.R_lower (Kd.R_new' ho0 (Kd.R_lt (by (with_reducible repeat (first | apply Kd.R_alloc | apply Kd.R_drewN | apply Kd.R_drew)); (first | exact HO301.out | (have hz_ := HO301.out; (try simp only [ob_] at hz_); (try simp only [ob_]); exact hz_))))) (below_size (by repeat (first | (with_reducible first | exact HB.out | apply below_alloc | apply pw_below_drewN | apply below_drew1) | exact HB.out)))); have n2_ := Aside0.mk (below_step (by repeat (first | (with_reducible first | exact HB.out | apply below_alloc | apply pw_below_drewN | apply below_drew1) | exact HB.out)) hb); clear HO301; clear HB; have HO301 := n0_; have HO305 := n1_; have HB := n2_; clear n0_ n1_ n2_; (try clear hb); (try clear hb2); (try clear hk); (try clear hi); (try clear ho0)))
    (try simp only [Act.put, List.setIfInBounds_toArray, List.set_cons_zero, List.set_cons_succ])
    go_cut [53] (fun v53 wc => ∃ (kq : Nat) (x53_7 : Bool), v53 = .bool x53_7 ∧ Aside0 (laws_FnBalancedRanks.j0 kq t296 t297 t298 t299 x53_7 = some r) ∧ Aside0 (kq ≤ k) ∧ Aside0 (Kd.R (Kd.int .i64) 3 wc w.heap.size (fun _ => True) v300 t298) ∧ Aside0 (Below w.heap.size w wc))
    case first =>
      have H := HC8.out
      clear HC8
      by_cases c12 : (t299 != t303) = true
      · rw [if_pos c12] at H
        have c12b0 : (t299 != t303) = true := c12
        (try (have c12b1 : decide (t299 = t303) = false := by simpa using c12))
        (try (have c12b2 : (t299 == t303) = false := by simpa using c12))
        (try (have c12b3 : ¬ (t299 = t303) := by simpa using c12))
        clear c12
        (first | rw [c12b0] | (simp only [i64_w, i32_w]; rw [c12b0]) | skip)
        have H' := Aside0.mk H
        clear H
        go_wp2
        go_meet
        case rel => exact ⟨_, (true), (by first | rfl | (simp; done) | (simp [*]; done)), H', ⟨by first | omega | exact Nat.le_refl _⟩, ⟨by (with_reducible repeat (first | apply Kd.R_alloc | apply Kd.R_drewN | apply Kd.R_drew)); (first | exact Kd.R_mono HO301.out (fun _ hk => trivial) | (have hz_ := Kd.R_mono HO301.out (fun _ hk => trivial); (try simp only [ob_] at hz_); (try simp only [ob_]); exact hz_))⟩, ⟨by repeat (first | (with_reducible first | exact HB.out | apply below_alloc | apply pw_below_drewN | apply below_drew1) | exact HB.out)⟩⟩
      · rw [if_neg c12] at H
        have c12b0 : (t299 != t303) = false := by simpa using c12
        (try (have c12b1 : decide (t299 = t303) = true := by simpa using c12))
        (try (have c12b2 : (t299 == t303) = true := by simpa using c12))
        clear c12
        (first | rw [c12b0] | (simp only [i64_w, i32_w]; rw [c12b0]) | skip)
        replace H := Option.bind_eq_some_iff.mp H
        obtain ⟨t306, A130, H⟩ := H
        replace H : (laws_FnBalancedRanks.j0 k t296 t297 t298 t299 (!t306)) = some r := H
        have A13 := Aside0.mk A130
        clear A130
        have H' := Aside0.mk H
        clear H
        obtain ⟨Ao14, co14, eo14⟩ := Kd.R_slice HO301.out
        subst eo14
        obtain ⟨Ao15, co15, eo15⟩ := Kd.R_slice HO305.out
        subst eo15
        go_wp2_with (first | (go_at_call 30; (with_reducible refine (laws_tSame.calls k _ _ t298 _ _ t302 t306 _ ?side1 ?side2 ?side3 ?side4 A13.out).mono ?_); (case side1 => repeat (first | exact (Kd.R_reads' HO301.out).2.2 | (with_reducible refine Kd.C_alloc ?_ _) | (with_reducible refine Kd.C_drewN ?_ _) | (with_reducible refine Kd.C_drew ?_))); (case side2 => exact (Kd.R_reads' HO301.out).2.1); (case side3 => repeat (first | exact (Kd.R_reads' HO305.out).2.2 | (with_reducible refine Kd.C_alloc ?_ _) | (with_reducible refine Kd.C_drewN ?_ _) | (with_reducible refine Kd.C_drew ?_))); (case side4 => exact (Kd.R_reads' HO305.out).2.1); rintro e w' ⟨rfl, ⟨nd, rfl⟩⟩))
        go_meet
        case rel => exact ⟨_, (!t306), (by first | rfl | (simp; done) | (simp [*]; done)), H', ⟨by first | omega | exact Nat.le_refl _⟩, ⟨by (with_reducible repeat (first | apply Kd.R_alloc | apply Kd.R_drewN | apply Kd.R_drew)); (first | exact Kd.R_mono HO301.out (fun _ hk => trivial) | (have hz_ := Kd.R_mono HO301.out (fun _ hk => trivial); (try simp only [ob_] at hz_); (try simp only [ob_]); exact hz_))⟩, ⟨by repeat (first | (with_reducible first | exact HB.out | apply below_alloc | apply pw_below_drewN | apply below_drew1) | exact HB.out)⟩⟩
    case rest =>
      clear HC8
      try clear c1
      try clear p2
      try clear c4
      try clear c5
      try clear c11
      try clear c12
      try clear c12b0
      try clear c12b1
      try clear c12b2
      try clear c15
      obtain ⟨kq, x53_7, rfl, HA, HJ7, HO_7, HB⟩ := hcut
      cases kq with
      | zero => exact absurd HA.out (by simp [laws_FnBalancedRanks.j0])
      | succ kj7 =>
        have H := HA.out
        clear HA
        simp only [laws_FnBalancedRanks.j0] at H
        by_cases c16 : x53_7 = true
        · subst c16
          have H1 : (some false) = some r := by rw [if_pos rfl] at H; exact H
          clear H
          have H := H1
          clear H1
          obtain rfl := Option.some.inj H
          go_wp2
          go_ret
          exact ⟨by first | rfl | (simp [errW_none, errW_some] <;> rfl) | (simp [*, errW_none, errW_some] <;> rfl), by repeat (first | (with_reducible first | exact HB.out | apply below_alloc | apply pw_below_drewN | apply below_drew1) | exact HB.out)⟩
        · replace c16 := Bool.eq_false_iff.mpr c16
          subst c16
          have H1 : ((impl_CountBalanced.f kj7 t296).bind fun bt307 => ((spec_CountBalanced.f kj7 t296).bind fun bt309 => (if (bt307.2 != bt309.2) = true then (laws_FnBalancedRanks.j1 kj7 t296 t297 t298 t299 bt307.1 true) else (if bt307.1 = bt309.1 then (if bt307.2 = true then (if t297 ≥ 0 then (laws_FnBalancedRanks.j1 kj7 t296 t297 t298 t299 bt307.1 (t299 != (decide (t297 < bt307.1)))) else (laws_FnBalancedRanks.j1 kj7 t296 t297 t298 t299 bt307.1 (t299 != false))) else (laws_FnBalancedRanks.j1 kj7 t296 t297 t298 t299 bt307.1 (t299 != false))) else (laws_FnBalancedRanks.j1 kj7 t296 t297 t298 t299 bt307.1 true))))) = some r := by rw [if_neg (show ¬ (false = true) by decide)] at H; exact H
          clear H
          have H := H1
          clear H1
          replace H := Option.bind_eq_some_iff.mp H
          obtain ⟨⟨t307, t308⟩, A170, H⟩ := H
          replace H : ((spec_CountBalanced.f kj7 t296).bind fun bt309 => (if (t308 != bt309.2) = true then (laws_FnBalancedRanks.j1 kj7 t296 t297 t298 t299 t307 true) else (if t307 = bt309.1 then (if t308 = true then (if t297 ≥ 0 then (laws_FnBalancedRanks.j1 kj7 t296 t297 t298 t299 t307 (t299 != (decide (t297 < t307)))) else (laws_FnBalancedRanks.j1 kj7 t296 t297 t298 t299 t307 (t299 != false))) else (laws_FnBalancedRanks.j1 kj7 t296 t297 t298 t299 t307 (t299 != false))) else (laws_FnBalancedRanks.j1 kj7 t296 t297 t298 t299 t307 true)))) = some r := H
          have A17 := Aside0.mk A170
          clear A170
          replace H := Option.bind_eq_some_iff.mp H
          obtain ⟨⟨t309, t310⟩, A180, H⟩ := H
          replace H : (if (t308 != t310) = true then (laws_FnBalancedRanks.j1 kj7 t296 t297 t298 t299 t307 true) else (if t307 = t309 then (if t308 = true then (if t297 ≥ 0 then (laws_FnBalancedRanks.j1 kj7 t296 t297 t298 t299 t307 (t299 != (decide (t297 < t307)))) else (laws_FnBalancedRanks.j1 kj7 t296 t297 t298 t299 t307 (t299 != false))) else (laws_FnBalancedRanks.j1 kj7 t296 t297 t298 t299 t307 (t299 != false))) else (laws_FnBalancedRanks.j1 kj7 t296 t297 t298 t299 t307 true))) = some r := H
          have A18 := Aside0.mk A180
          clear A180
          have HC19 := Aside0.mk H
          clear H
          go_upto_region 10 with (first | ((with_reducible refine gate_callee (f := 20) rfl ?_); refine goesL_ (some 56) rfl rfl Try.func20 (by kernel_rfl) rfl #[.int .i64 t296] rfl (by (try simp only [List.map_toArray, List.map_cons, List.map_nil]); first | done | rfl | (simp only [List.length_drop, List.length_take]; rfl)) ?_; (with_reducible refine (impl_CountBalanced.calls kj7 t296 t307 t308 _ A17.out).mono ?_); rintro e w20 ⟨rfl, hb⟩; refine ⟨_, rfl, ?_⟩; have n0_ := Aside0.mk (Kd.R_below (by (with_reducible repeat (first | apply Kd.R_alloc | apply Kd.R_drewN | apply Kd.R_drew)); (first | exact HO_7.out | (have hz_ := HO_7.out; (try simp only [ob_] at hz_); (try simp only [ob_]); exact hz_))) hb); have n1_ := Aside0.mk (below_step (by repeat (first | (with_reducible first | exact HB.out | apply below_alloc | apply pw_below_drewN | apply below_drew1) | exact HB.out)) hb); clear HO_7; clear HB; have HO_7 := n0_; have HB := n1_; clear n0_ n1_; (try clear hb); (try clear hb2); (try clear hk); (try clear hi)) | ((with_reducible refine gate_callee (f := 59) rfl ?_); refine goesL_ (some 61) rfl rfl Try.func59 (by kernel_rfl) rfl #[.int .i64 t296] rfl (by (try simp only [List.map_toArray, List.map_cons, List.map_nil]); first | done | rfl | (simp only [List.length_drop, List.length_take]; rfl)) ?_; (with_reducible refine (spec_CountBalanced.calls kj7 t296 t309 t310 _ A18.out).mono ?_); rintro e w21 ⟨rfl, hb⟩; refine ⟨_, rfl, ?_⟩; have n0_ := Aside0.mk (Kd.R_below (by (with_reducible repeat (first | apply Kd.R_alloc | apply Kd.R_drewN | apply Kd.R_drew)); (first | exact HO_7.out | (have hz_ := HO_7.out; (try simp only [ob_] at hz_); (try simp only [ob_]); exact hz_))) hb); have n1_ := Aside0.mk (below_step (by repeat (first | (with_reducible first | exact HB.out | apply below_alloc | apply pw_below_drewN | apply below_drew1) | exact HB.out)) hb); clear HO_7; clear HB; have HO_7 := n0_; have HB := n1_; clear n0_ n1_; (try clear hb); (try clear hb2); (try clear hk); (try clear hi)))
          (try simp only [Act.put, List.setIfInBounds_toArray, List.set_cons_zero, List.set_cons_succ])
          go_cut [85] (fun v85 wc => ∃ (kq : Nat) (x85_18 : Bool), v85 = .bool x85_18 ∧ Aside0 (laws_FnBalancedRanks.j1 kq t296 t297 t298 t299 t307 x85_18 = some r) ∧ Aside0 (kq ≤ kj7) ∧ Aside0 (Kd.R (Kd.int .i64) 3 wc w.heap.size (fun _ => True) v300 t298) ∧ Aside0 (Below w.heap.size w wc))
          case first =>
            have H := HC19.out
            clear HC19
            by_cases c22 : (t308 != t310) = true
            · rw [if_pos c22] at H
              have c22b0 : (t308 != t310) = true := c22
              (try (have c22b1 : decide (t308 = t310) = false := by simpa using c22))
              (try (have c22b2 : (t308 == t310) = false := by simpa using c22))
              (try (have c22b3 : ¬ (t308 = t310) := by simpa using c22))
              clear c22
              (first | rw [c22b0] | (simp only [i64_w, i32_w]; rw [c22b0]) | skip)
              have H' := Aside0.mk H
              clear H
              go_wp2
              go_meet
              case rel => exact ⟨_, (true), (by first | rfl | (simp; done) | (simp [*]; done)), H', ⟨by have := HJ7.out; first | omega | exact Nat.le_refl _⟩, ⟨by (with_reducible repeat (first | apply Kd.R_alloc | apply Kd.R_drewN | apply Kd.R_drew)); (first | exact HO_7.out | (have hz_ := HO_7.out; (try simp only [ob_] at hz_); (try simp only [ob_]); exact hz_))⟩, ⟨by repeat (first | (with_reducible first | exact HB.out | apply below_alloc | apply pw_below_drewN | apply below_drew1) | exact HB.out)⟩⟩
            · rw [if_neg c22] at H
              have c22b0 : (t308 != t310) = false := by simpa using c22
              (try (have c22b1 : decide (t308 = t310) = true := by simpa using c22))
              (try (have c22b2 : (t308 == t310) = true := by simpa using c22))
              clear c22
              (first | rw [c22b0] | (simp only [i64_w, i32_w]; rw [c22b0]) | skip)
              by_cases c23 : t307 = t309
              · rw [if_pos c23] at H
                have c23b0 : (t307 == t309) = true := beq_iff_eq.mpr c23
                have c23b1 : (t307 != t309) = false := bne_eq_false_iff_eq.mpr c23
                clear c23
                by_cases c24 : t308 = true
                · subst c24
                  have H1 : (if t297 ≥ 0 then (laws_FnBalancedRanks.j1 kj7 t296 t297 t298 t299 t307 (t299 != (decide (t297 < t307)))) else (laws_FnBalancedRanks.j1 kj7 t296 t297 t298 t299 t307 (t299 != false))) = some r := by rw [if_pos rfl] at H; exact H
                  clear H
                  have H := H1
                  clear H1
                  by_cases c25 : t297 ≥ 0
                  · rw [if_pos c25] at H
                    have c25b0 : decide (0 ≤ t297) = true := decide_eq_true c25
                    clear c25
                    have H' := Aside0.mk H
                    clear H
                    go_wp2
                    go_meet
                    case rel => exact ⟨_, ((t299 != (decide (t297 < t307)))), (by first | rfl | (simp; done) | (simp [*]; done)), H', ⟨by have := HJ7.out; first | omega | exact Nat.le_refl _⟩, ⟨by (with_reducible repeat (first | apply Kd.R_alloc | apply Kd.R_drewN | apply Kd.R_drew)); (first | exact HO_7.out | (have hz_ := HO_7.out; (try simp only [ob_] at hz_); (try simp only [ob_]); exact hz_))⟩, ⟨by repeat (first | (with_reducible first | exact HB.out | apply below_alloc | apply pw_below_drewN | apply below_drew1) | exact HB.out)⟩⟩
                  · rw [if_neg c25] at H
                    have c25b0 : decide (0 ≤ t297) = false := decide_eq_false c25
                    clear c25
                    have H' := Aside0.mk H
                    clear H
                    go_wp2
                    go_meet
                    case rel => exact ⟨_, ((t299 != false)), (by first | rfl | (simp; done) | (simp [*]; done)), H', ⟨by have := HJ7.out; first | omega | exact Nat.le_refl _⟩, ⟨by (with_reducible repeat (first | apply Kd.R_alloc | apply Kd.R_drewN | apply Kd.R_drew)); (first | exact HO_7.out | (have hz_ := HO_7.out; (try simp only [ob_] at hz_); (try simp only [ob_]); exact hz_))⟩, ⟨by repeat (first | (with_reducible first | exact HB.out | apply below_alloc | apply pw_below_drewN | apply below_drew1) | exact HB.out)⟩⟩
                · replace c24 := Bool.eq_false_iff.mpr c24
                  subst c24
                  have H1 : (laws_FnBalancedRanks.j1 kj7 t296 t297 t298 t299 t307 (t299 != false)) = some r := by rw [if_neg (show ¬ (false = true) by decide)] at H; exact H
                  clear H
                  have H := H1
                  clear H1
                  have H' := Aside0.mk H
                  clear H
                  go_wp2
                  go_meet
                  case rel => exact ⟨_, ((t299 != false)), (by first | rfl | (simp; done) | (simp [*]; done)), H', ⟨by have := HJ7.out; first | omega | exact Nat.le_refl _⟩, ⟨by (with_reducible repeat (first | apply Kd.R_alloc | apply Kd.R_drewN | apply Kd.R_drew)); (first | exact HO_7.out | (have hz_ := HO_7.out; (try simp only [ob_] at hz_); (try simp only [ob_]); exact hz_))⟩, ⟨by repeat (first | (with_reducible first | exact HB.out | apply below_alloc | apply pw_below_drewN | apply below_drew1) | exact HB.out)⟩⟩
              · rw [if_neg c23] at H
                have c23b0 : (t307 == t309) = false := beq_eq_false_iff_ne.mpr c23
                have c23b1 : (t307 != t309) = true := bne_iff_ne.mpr c23
                have H' := Aside0.mk H
                clear H
                go_wp2
                go_meet
                case rel => exact ⟨_, (true), (by first | rfl | (simp; done) | (simp [*]; done)), H', ⟨by have := HJ7.out; first | omega | exact Nat.le_refl _⟩, ⟨by (with_reducible repeat (first | apply Kd.R_alloc | apply Kd.R_drewN | apply Kd.R_drew)); (first | exact HO_7.out | (have hz_ := HO_7.out; (try simp only [ob_] at hz_); (try simp only [ob_]); exact hz_))⟩, ⟨by repeat (first | (with_reducible first | exact HB.out | apply below_alloc | apply pw_below_drewN | apply below_drew1) | exact HB.out)⟩⟩
          case rest =>
            clear HC19
            try clear c1
            try clear c2
            try clear p2
            try clear c4
            try clear c5
            try clear c11
            try clear c12
            try clear c12b0
            try clear c12b1
            try clear c12b2
            try clear c15
            try clear c16
            try clear c20
            try clear c22
            try clear c22b0
            try clear c22b1
            try clear c22b2
            try clear c23
            try clear c23b0
            try clear c23b1
            try clear c24
            try clear c25
            try clear c25b0
            try clear p2
            obtain ⟨kq, x85_18, rfl, HA, HJ18, HO_7, HB⟩ := hcut
            cases kq with
            | zero => exact absurd HA.out (by simp [laws_FnBalancedRanks.j1])
            | succ kj18 =>
              have H := HA.out
              clear HA
              simp only [laws_FnBalancedRanks.j1] at H
              by_cases c26 : x85_18 = true
              · subst c26
                have H1 : (some false) = some r := by rw [if_pos rfl] at H; exact H
                clear H
                have H := H1
                clear H1
                obtain rfl := Option.some.inj H
                go_wp2
                go_ret
                exact ⟨by first | rfl | (simp [errW_none, errW_some] <;> rfl) | (simp [*, errW_none, errW_some] <;> rfl), by repeat (first | (with_reducible first | exact HB.out | apply below_alloc | apply pw_below_drewN | apply below_drew1) | exact HB.out)⟩
              · replace c26 := Bool.eq_false_iff.mpr c26
                subst c26
                have H1 : (if t299 = true then ((impl_RankBalanced.f kj18 t298).bind fun bt311 => ((impl_BalancedWith.f kj18 t296 (wrap64 (t297 + 1))).bind fun bt313 => (if bt311.2 = true then (if bt311.1 = t297 then ((impl_IsBalancedWord.f kj18 t298).bind fun t317 => (if t317 = true then (if (t298.length : Int) = (wrap64 (2 * t296)) then (if (bt313.2 != (decide ((wrap64 (t297 + 1)) < t307))) = true then (laws_FnBalancedRanks.j2 kj18 t296 t298 true) else (if bt313.2 = true then ((laws_tLess.f kj18 t298 bt313.1).bind fun t318 => (laws_FnBalancedRanks.j2 kj18 t296 t298 (!t318))) else (laws_FnBalancedRanks.j2 kj18 t296 t298 false))) else (laws_FnBalancedRanks.j2 kj18 t296 t298 true)) else (laws_FnBalancedRanks.j2 kj18 t296 t298 true))) else (laws_FnBalancedRanks.j2 kj18 t296 t298 true)) else (laws_FnBalancedRanks.j2 kj18 t296 t298 true)))) else (some true)) = some r := by rw [if_neg (show ¬ (false = true) by decide)] at H; exact H
                clear H
                have H := H1
                clear H1
                by_cases c27 : t299 = true
                · subst c27
                  have H1 : ((impl_RankBalanced.f kj18 t298).bind fun bt311 => ((impl_BalancedWith.f kj18 t296 (wrap64 (t297 + 1))).bind fun bt313 => (if bt311.2 = true then (if bt311.1 = t297 then ((impl_IsBalancedWord.f kj18 t298).bind fun t317 => (if t317 = true then (if (t298.length : Int) = (wrap64 (2 * t296)) then (if (bt313.2 != (decide ((wrap64 (t297 + 1)) < t307))) = true then (laws_FnBalancedRanks.j2 kj18 t296 t298 true) else (if bt313.2 = true then ((laws_tLess.f kj18 t298 bt313.1).bind fun t318 => (laws_FnBalancedRanks.j2 kj18 t296 t298 (!t318))) else (laws_FnBalancedRanks.j2 kj18 t296 t298 false))) else (laws_FnBalancedRanks.j2 kj18 t296 t298 true)) else (laws_FnBalancedRanks.j2 kj18 t296 t298 true))) else (laws_FnBalancedRanks.j2 kj18 t296 t298 true)) else (laws_FnBalancedRanks.j2 kj18 t296 t298 true)))) = some r := by rw [if_pos rfl] at H; exact H
                  clear H
                  have H := H1
                  clear H1
                  replace H := Option.bind_eq_some_iff.mp H
                  obtain ⟨⟨t311, t312⟩, A280, H⟩ := H
                  replace H : ((impl_BalancedWith.f kj18 t296 (wrap64 (t297 + 1))).bind fun bt313 => (if t312 = true then (if t311 = t297 then ((impl_IsBalancedWord.f kj18 t298).bind fun t317 => (if t317 = true then (if (t298.length : Int) = (wrap64 (2 * t296)) then (if (bt313.2 != (decide ((wrap64 (t297 + 1)) < t307))) = true then (laws_FnBalancedRanks.j2 kj18 t296 t298 true) else (if bt313.2 = true then ((laws_tLess.f kj18 t298 bt313.1).bind fun t318 => (laws_FnBalancedRanks.j2 kj18 t296 t298 (!t318))) else (laws_FnBalancedRanks.j2 kj18 t296 t298 false))) else (laws_FnBalancedRanks.j2 kj18 t296 t298 true)) else (laws_FnBalancedRanks.j2 kj18 t296 t298 true))) else (laws_FnBalancedRanks.j2 kj18 t296 t298 true)) else (laws_FnBalancedRanks.j2 kj18 t296 t298 true))) = some r := H
                  have A28 := Aside0.mk A280
                  clear A280
                  replace H := Option.bind_eq_some_iff.mp H
                  obtain ⟨⟨t313, t314⟩, A290, H⟩ := H
                  replace H : (if t312 = true then (if t311 = t297 then ((impl_IsBalancedWord.f kj18 t298).bind fun t317 => (if t317 = true then (if (t298.length : Int) = (wrap64 (2 * t296)) then (if (t314 != (decide ((wrap64 (t297 + 1)) < t307))) = true then (laws_FnBalancedRanks.j2 kj18 t296 t298 true) else (if t314 = true then ((laws_tLess.f kj18 t298 t313).bind fun t318 => (laws_FnBalancedRanks.j2 kj18 t296 t298 (!t318))) else (laws_FnBalancedRanks.j2 kj18 t296 t298 false))) else (laws_FnBalancedRanks.j2 kj18 t296 t298 true)) else (laws_FnBalancedRanks.j2 kj18 t296 t298 true))) else (laws_FnBalancedRanks.j2 kj18 t296 t298 true)) else (laws_FnBalancedRanks.j2 kj18 t296 t298 true)) = some r := H
                  have A29 := Aside0.mk A290
                  clear A290
                  have HC30 := Aside0.mk H
                  clear H
                  obtain ⟨Ao31, co31, eo31⟩ := Kd.R_slice HO_7.out
                  subst eo31
                  go_upto_region 16 with (first | ((with_reducible refine gate_callee (f := 21) rfl ?_); refine goesL_ (some 90) rfl rfl Try.func21 (by kernel_rfl) rfl #[.slice Ao31 t298.length co31] rfl (by (try simp only [List.map_toArray, List.map_cons, List.map_nil]); first | done | rfl | (simp only [List.length_drop, List.length_take]; rfl)) ?_; (with_reducible refine (impl_RankBalanced.calls kj18 _ _ t298 t311 t312 _ ?side1 ?side2 A28.out).mono ?_); (case side1 => repeat (first | exact (Kd.R_reads' HO_7.out).2.2 | (with_reducible refine Kd.C_alloc ?_ _) | (with_reducible refine Kd.C_drewN ?_ _) | (with_reducible refine Kd.C_drew ?_))); (case side2 => exact (Kd.R_reads' HO_7.out).2.1); rintro e w32 ⟨rfl, hb⟩; refine ⟨_, rfl, ?_⟩; have n0_ := Aside0.mk (Kd.R_below (by (with_reducible repeat (first | apply Kd.R_alloc | apply Kd.R_drewN | apply Kd.R_drew)); (first | exact HO_7.out | (have hz_ := HO_7.out; (try simp only [ob_] at hz_); (try simp only [ob_]); exact hz_))) hb); have n1_ := Aside0.mk (below_step (by repeat (first | (with_reducible first | exact HB.out | apply below_alloc | apply pw_below_drewN | apply below_drew1) | exact HB.out)) hb); clear HO_7; clear HB; have HO_7 := n0_; have HB := n1_; clear n0_ n1_; (try clear hb); (try clear hb2); (try clear hk); (try clear hi)) | ((with_reducible refine gate_callee (f := 57) rfl ?_); refine goesL_ (some 97) rfl rfl Try.func57 (by kernel_rfl) rfl #[.int .i64 t296, .int .i64 (wrap64 (t297 + 1))] rfl (by (try simp only [List.map_toArray, List.map_cons, List.map_nil]); first | done | rfl | (simp only [List.length_drop, List.length_take]; rfl)) ?_; (with_reducible refine (impl_BalancedWith.calls kj18 t296 (wrap64 (t297 + 1)) t313 t314 _ A29.out).mono ?_); rintro e w33 ⟨v315, rfl, ho0, hb⟩; refine ⟨_, rfl, ?_⟩; have n0_ := Aside0.mk (Kd.R_elder' (by (with_reducible repeat (first | apply Kd.R_alloc | apply Kd.R_drewN | apply Kd.R_drew)); (first | exact HO_7.out | (have hz_ := HO_7.out; (try simp only [ob_] at hz_); (try simp only [ob_]); exact hz_))) (Kd.R_base ho0) hb); have n1_ := Aside0.mk (Kd.R_lower (Kd.R_new' ho0 (Kd.R_lt (by (with_reducible repeat (first | apply Kd.R_alloc | apply Kd.R_drewN | apply Kd.R_drew)); (first | exact HO_7.out | (have hz_ := HO_7.out; (try simp only [ob_] at hz_); (try simp only [ob_]); exact hz_))))) (below_size (by repeat (first | (with_reducible first | exact HB.out | apply below_alloc | apply pw_below_drewN | apply below_drew1) | exact HB.out)))); have n2_ := Aside0.mk (below_step (by repeat (first | (with_reducible first | exact HB.out | apply below_alloc | apply pw_below_drewN | apply below_drew1) | exact HB.out)) hb); clear HO_7; clear HB; have HO_7 := n0_; have HO316 := n1_; have HB := n2_; clear n0_ n1_ n2_; (try clear hb); (try clear hb2); (try clear hk); (try clear hi); (try clear ho0)))
                  (try simp only [Act.put, List.setIfInBounds_toArray, List.set_cons_zero, List.set_cons_succ])
                  go_cut [135] (fun v135 wc => ∃ (kq : Nat) (x135_29 : Bool), v135 = .bool x135_29 ∧ Aside0 (laws_FnBalancedRanks.j2 kq t296 t298 x135_29 = some r) ∧ Aside0 (kq ≤ kj18) ∧ Aside0 (Kd.R (Kd.int .i64) 3 wc w.heap.size (fun _ => True) (.slice Ao31 t298.length co31) t298) ∧ Aside0 (Below w.heap.size w wc))
                  case first =>
                    have H := HC30.out
                    clear HC30
                    by_cases c34 : t312 = true
                    · subst c34
                      have H1 : (if t311 = t297 then ((impl_IsBalancedWord.f kj18 t298).bind fun t317 => (if t317 = true then (if (t298.length : Int) = (wrap64 (2 * t296)) then (if (t314 != (decide ((wrap64 (t297 + 1)) < t307))) = true then (laws_FnBalancedRanks.j2 kj18 t296 t298 true) else (if t314 = true then ((laws_tLess.f kj18 t298 t313).bind fun t318 => (laws_FnBalancedRanks.j2 kj18 t296 t298 (!t318))) else (laws_FnBalancedRanks.j2 kj18 t296 t298 false))) else (laws_FnBalancedRanks.j2 kj18 t296 t298 true)) else (laws_FnBalancedRanks.j2 kj18 t296 t298 true))) else (laws_FnBalancedRanks.j2 kj18 t296 t298 true)) = some r := by rw [if_pos rfl] at H; exact H
                      clear H
                      have H := H1
                      clear H1
                      by_cases c35 : t311 = t297
                      · rw [if_pos c35] at H
                        have c35b0 : (t311 == t297) = true := beq_iff_eq.mpr c35
                        have c35b1 : (t311 != t297) = false := bne_eq_false_iff_eq.mpr c35
                        clear c35
                        (first | rw [c35b0] | (simp only [i64_w, i32_w]; rw [c35b0]) | skip)
                        replace H := Option.bind_eq_some_iff.mp H
                        obtain ⟨t317, A360, H⟩ := H
                        replace H : (if t317 = true then (if (t298.length : Int) = (wrap64 (2 * t296)) then (if (t314 != (decide ((wrap64 (t297 + 1)) < t307))) = true then (laws_FnBalancedRanks.j2 kj18 t296 t298 true) else (if t314 = true then ((laws_tLess.f kj18 t298 t313).bind fun t318 => (laws_FnBalancedRanks.j2 kj18 t296 t298 (!t318))) else (laws_FnBalancedRanks.j2 kj18 t296 t298 false))) else (laws_FnBalancedRanks.j2 kj18 t296 t298 true)) else (laws_FnBalancedRanks.j2 kj18 t296 t298 true)) = some r := H
                        have A36 := Aside0.mk A360
                        clear A360
                        by_cases c37 : t317 = true
                        · subst c37
                          have H1 : (if (t298.length : Int) = (wrap64 (2 * t296)) then (if (t314 != (decide ((wrap64 (t297 + 1)) < t307))) = true then (laws_FnBalancedRanks.j2 kj18 t296 t298 true) else (if t314 = true then ((laws_tLess.f kj18 t298 t313).bind fun t318 => (laws_FnBalancedRanks.j2 kj18 t296 t298 (!t318))) else (laws_FnBalancedRanks.j2 kj18 t296 t298 false))) else (laws_FnBalancedRanks.j2 kj18 t296 t298 true)) = some r := by rw [if_pos rfl] at H; exact H
                          clear H
                          have H := H1
                          clear H1
                          by_cases c38 : (t298.length : Int) = (wrap64 (2 * t296))
                          · rw [if_pos c38] at H
                            have c38b0 : ((t298.length : Int) == (wrap64 (2 * t296))) = true := beq_iff_eq.mpr c38
                            have c38b1 : ((t298.length : Int) != (wrap64 (2 * t296))) = false := bne_eq_false_iff_eq.mpr c38
                            clear c38
                            by_cases c39 : (t314 != (decide ((wrap64 (t297 + 1)) < t307))) = true
                            · rw [if_pos c39] at H
                              have c39b0 : (t314 != (decide ((wrap64 (t297 + 1)) < t307))) = true := c39
                              (try (have c39b1 : decide (t314 = (decide ((wrap64 (t297 + 1)) < t307))) = false := by simpa using c39))
                              (try (have c39b2 : (t314 == (decide ((wrap64 (t297 + 1)) < t307))) = false := by simpa using c39))
                              (try (have c39b3 : ¬ (t314 = (decide ((wrap64 (t297 + 1)) < t307))) := by simpa using c39))
                              clear c39
                              have H' := Aside0.mk H
                              clear H
                              go_wp2_with (first | (go_at_call 60; (with_reducible refine (impl_IsBalancedWord.calls kj18 _ _ t298 true _ ?side1 ?side2 A36.out).mono ?_); (case side1 => repeat (first | exact (Kd.R_reads' HO_7.out).2.2 | (with_reducible refine Kd.C_alloc ?_ _) | (with_reducible refine Kd.C_drewN ?_ _) | (with_reducible refine Kd.C_drew ?_))); (case side2 => exact (Kd.R_reads' HO_7.out).2.1); rintro e w' ⟨rfl, ⟨nd, rfl⟩⟩))
                              go_meet
                              case rel => exact ⟨_, (true), (by first | rfl | (simp; done) | (simp [*]; done)), H', ⟨by have := HJ7.out; have := HJ18.out; first | omega | exact Nat.le_refl _⟩, ⟨by (with_reducible repeat (first | apply Kd.R_alloc | apply Kd.R_drewN | apply Kd.R_drew)); (first | exact Kd.R_mono HO_7.out (fun _ hk => trivial) | (have hz_ := Kd.R_mono HO_7.out (fun _ hk => trivial); (try simp only [ob_] at hz_); (try simp only [ob_]); exact hz_))⟩, ⟨by repeat (first | (with_reducible first | exact HB.out | apply below_alloc | apply pw_below_drewN | apply below_drew1) | exact HB.out)⟩⟩
                            · rw [if_neg c39] at H
                              have c39b0 : (t314 != (decide ((wrap64 (t297 + 1)) < t307))) = false := by simpa using c39
                              (try (have c39b1 : decide (t314 = (decide ((wrap64 (t297 + 1)) < t307))) = true := by simpa using c39))
                              (try (have c39b2 : (t314 == (decide ((wrap64 (t297 + 1)) < t307))) = true := by simpa using c39))
                              clear c39
                              by_cases c40 : t314 = true
                              · subst c40
                                have H1 : ((laws_tLess.f kj18 t298 t313).bind fun t318 => (laws_FnBalancedRanks.j2 kj18 t296 t298 (!t318))) = some r := by rw [if_pos rfl] at H; exact H
                                clear H
                                have H := H1
                                clear H1
                                replace H := Option.bind_eq_some_iff.mp H
                                obtain ⟨t318, A410, H⟩ := H
                                replace H : (laws_FnBalancedRanks.j2 kj18 t296 t298 (!t318)) = some r := H
                                have A41 := Aside0.mk A410
                                clear A410
                                have H' := Aside0.mk H
                                clear H
                                go_wp2_with (first | (go_at_call 60; (with_reducible refine (impl_IsBalancedWord.calls kj18 _ _ t298 true _ ?side1 ?side2 A36.out).mono ?_); (case side1 => repeat (first | exact (Kd.R_reads' HO_7.out).2.2 | (with_reducible refine Kd.C_alloc ?_ _) | (with_reducible refine Kd.C_drewN ?_ _) | (with_reducible refine Kd.C_drew ?_))); (case side2 => exact (Kd.R_reads' HO_7.out).2.1); rintro e w' ⟨rfl, ⟨nd, rfl⟩⟩; obtain ⟨Ao42, co42, eo42⟩ := Kd.R_slice HO316.out; subst eo42) | (go_at_call 61; (with_reducible refine (laws_tLess.calls kj18 _ _ t298 _ _ t313 t318 _ ?side1 ?side2 ?side3 ?side4 A41.out).mono ?_); (case side1 => repeat (first | exact (Kd.R_reads' HO_7.out).2.2 | (with_reducible refine Kd.C_alloc ?_ _) | (with_reducible refine Kd.C_drewN ?_ _) | (with_reducible refine Kd.C_drew ?_))); (case side2 => exact (Kd.R_reads' HO_7.out).2.1); (case side3 => repeat (first | exact (Kd.R_reads' HO316.out).2.2 | (with_reducible refine Kd.C_alloc ?_ _) | (with_reducible refine Kd.C_drewN ?_ _) | (with_reducible refine Kd.C_drew ?_))); (case side4 => exact (Kd.R_reads' HO316.out).2.1); rintro e w' ⟨rfl, ⟨nd, rfl⟩⟩))
                                go_meet
                                case rel => exact ⟨_, (!t318), (by first | rfl | (simp; done) | (simp [*]; done)), H', ⟨by have := HJ7.out; have := HJ18.out; first | omega | exact Nat.le_refl _⟩, ⟨by (with_reducible repeat (first | apply Kd.R_alloc | apply Kd.R_drewN | apply Kd.R_drew)); (first | exact Kd.R_mono HO_7.out (fun _ hk => trivial) | (have hz_ := Kd.R_mono HO_7.out (fun _ hk => trivial); (try simp only [ob_] at hz_); (try simp only [ob_]); exact hz_))⟩, ⟨by repeat (first | (with_reducible first | exact HB.out | apply below_alloc | apply pw_below_drewN | apply below_drew1) | exact HB.out)⟩⟩
                              · replace c40 := Bool.eq_false_iff.mpr c40
                                subst c40
                                have H1 : (laws_FnBalancedRanks.j2 kj18 t296 t298 false) = some r := by rw [if_neg (show ¬ (false = true) by decide)] at H; exact H
                                clear H
                                have H := H1
                                clear H1
                                have H' := Aside0.mk H
                                clear H
                                go_wp2_with (first | (go_at_call 60; (with_reducible refine (impl_IsBalancedWord.calls kj18 _ _ t298 true _ ?side1 ?side2 A36.out).mono ?_); (case side1 => repeat (first | exact (Kd.R_reads' HO_7.out).2.2 | (with_reducible refine Kd.C_alloc ?_ _) | (with_reducible refine Kd.C_drewN ?_ _) | (with_reducible refine Kd.C_drew ?_))); (case side2 => exact (Kd.R_reads' HO_7.out).2.1); rintro e w' ⟨rfl, ⟨nd, rfl⟩⟩))
                                go_meet
                                case rel => exact ⟨_, (false), (by first | rfl | (simp; done) | (simp [*]; done)), H', ⟨by have := HJ7.out; have := HJ18.out; first | omega | exact Nat.le_refl _⟩, ⟨by (with_reducible repeat (first | apply Kd.R_alloc | apply Kd.R_drewN | apply Kd.R_drew)); (first | exact Kd.R_mono HO_7.out (fun _ hk => trivial) | (have hz_ := Kd.R_mono HO_7.out (fun _ hk => trivial); (try simp only [ob_] at hz_); (try simp only [ob_]); exact hz_))⟩, ⟨by repeat (first | (with_reducible first | exact HB.out | apply below_alloc | apply pw_below_drewN | apply below_drew1) | exact HB.out)⟩⟩
                          · rw [if_neg c38] at H
                            have c38b0 : ((t298.length : Int) == (wrap64 (2 * t296))) = false := beq_eq_false_iff_ne.mpr c38
                            have c38b1 : ((t298.length : Int) != (wrap64 (2 * t296))) = true := bne_iff_ne.mpr c38
                            have H' := Aside0.mk H
                            clear H
                            go_wp2_with (first | (go_at_call 60; (with_reducible refine (impl_IsBalancedWord.calls kj18 _ _ t298 true _ ?side1 ?side2 A36.out).mono ?_); (case side1 => repeat (first | exact (Kd.R_reads' HO_7.out).2.2 | (with_reducible refine Kd.C_alloc ?_ _) | (with_reducible refine Kd.C_drewN ?_ _) | (with_reducible refine Kd.C_drew ?_))); (case side2 => exact (Kd.R_reads' HO_7.out).2.1); rintro e w' ⟨rfl, ⟨nd, rfl⟩⟩))
                            go_meet
                            case rel => exact ⟨_, (true), (by first | rfl | (simp; done) | (simp [*]; done)), H', ⟨by have := HJ7.out; have := HJ18.out; first | omega | exact Nat.le_refl _⟩, ⟨by (with_reducible repeat (first | apply Kd.R_alloc | apply Kd.R_drewN | apply Kd.R_drew)); (first | exact Kd.R_mono HO_7.out (fun _ hk => trivial) | (have hz_ := Kd.R_mono HO_7.out (fun _ hk => trivial); (try simp only [ob_] at hz_); (try simp only [ob_]); exact hz_))⟩, ⟨by repeat (first | (with_reducible first | exact HB.out | apply below_alloc | apply pw_below_drewN | apply below_drew1) | exact HB.out)⟩⟩
                        · replace c37 := Bool.eq_false_iff.mpr c37
                          subst c37
                          have H1 : (laws_FnBalancedRanks.j2 kj18 t296 t298 true) = some r := by rw [if_neg (show ¬ (false = true) by decide)] at H; exact H
                          clear H
                          have H := H1
                          clear H1
                          have H' := Aside0.mk H
                          clear H
                          go_wp2_with (first | (go_at_call 60; (with_reducible refine (impl_IsBalancedWord.calls kj18 _ _ t298 false _ ?side1 ?side2 A36.out).mono ?_); (case side1 => repeat (first | exact (Kd.R_reads' HO_7.out).2.2 | (with_reducible refine Kd.C_alloc ?_ _) | (with_reducible refine Kd.C_drewN ?_ _) | (with_reducible refine Kd.C_drew ?_))); (case side2 => exact (Kd.R_reads' HO_7.out).2.1); rintro e w' ⟨rfl, ⟨nd, rfl⟩⟩))
                          go_meet
                          case rel => exact ⟨_, (true), (by first | rfl | (simp; done) | (simp [*]; done)), H', ⟨by have := HJ7.out; have := HJ18.out; first | omega | exact Nat.le_refl _⟩, ⟨by (with_reducible repeat (first | apply Kd.R_alloc | apply Kd.R_drewN | apply Kd.R_drew)); (first | exact Kd.R_mono HO_7.out (fun _ hk => trivial) | (have hz_ := Kd.R_mono HO_7.out (fun _ hk => trivial); (try simp only [ob_] at hz_); (try simp only [ob_]); exact hz_))⟩, ⟨by repeat (first | (with_reducible first | exact HB.out | apply below_alloc | apply pw_below_drewN | apply below_drew1) | exact HB.out)⟩⟩
                      · rw [if_neg c35] at H
                        have c35b0 : (t311 == t297) = false := beq_eq_false_iff_ne.mpr c35
                        have c35b1 : (t311 != t297) = true := bne_iff_ne.mpr c35
                        (first | rw [c35b0] | (simp only [i64_w, i32_w]; rw [c35b0]) | skip)
                        have H' := Aside0.mk H
                        clear H
                        go_wp2
                        go_meet
                        case rel => exact ⟨_, (true), (by first | rfl | (simp; done) | (simp [*]; done)), H', ⟨by have := HJ7.out; have := HJ18.out; first | omega | exact Nat.le_refl _⟩, ⟨by (with_reducible repeat (first | apply Kd.R_alloc | apply Kd.R_drewN | apply Kd.R_drew)); (first | exact Kd.R_mono HO_7.out (fun _ hk => trivial) | (have hz_ := Kd.R_mono HO_7.out (fun _ hk => trivial); (try simp only [ob_] at hz_); (try simp only [ob_]); exact hz_))⟩, ⟨by repeat (first | (with_reducible first | exact HB.out | apply below_alloc | apply pw_below_drewN | apply below_drew1) | exact HB.out)⟩⟩
                    · replace c34 := Bool.eq_false_iff.mpr c34
                      subst c34
                      have H1 : (laws_FnBalancedRanks.j2 kj18 t296 t298 true) = some r := by rw [if_neg (show ¬ (false = true) by decide)] at H; exact H
                      clear H
                      have H := H1
                      clear H1
                      have H' := Aside0.mk H
                      clear H
                      go_wp2
                      go_meet
                      case rel => exact ⟨_, (true), (by first | rfl | (simp; done) | (simp [*]; done)), H', ⟨by have := HJ7.out; have := HJ18.out; first | omega | exact Nat.le_refl _⟩, ⟨by (with_reducible repeat (first | apply Kd.R_alloc | apply Kd.R_drewN | apply Kd.R_drew)); (first | exact Kd.R_mono HO_7.out (fun _ hk => trivial) | (have hz_ := Kd.R_mono HO_7.out (fun _ hk => trivial); (try simp only [ob_] at hz_); (try simp only [ob_]); exact hz_))⟩, ⟨by repeat (first | (with_reducible first | exact HB.out | apply below_alloc | apply pw_below_drewN | apply below_drew1) | exact HB.out)⟩⟩
                  case rest =>
                    clear HC30
                    try clear c1
                    try clear c2
                    try clear p2
                    try clear c3
                    try clear c4
                    try clear c5
                    try clear p6
                    try clear c11
                    try clear c12
                    try clear c12b0
                    try clear c12b1
                    try clear c12b2
                    try clear c15
                    try clear c16
                    try clear c20
                    try clear c21
                    try clear c22
                    try clear c22b0
                    try clear c22b1
                    try clear c22b2
                    try clear c23
                    try clear c23b0
                    try clear c23b1
                    try clear c24
                    try clear c25
                    try clear c25b0
                    try clear c26
                    try clear c27
                    try clear c34
                    try clear c35
                    try clear c35b0
                    try clear c35b1
                    try clear c37
                    try clear c38
                    try clear c38b0
                    try clear c38b1
                    try clear c39
                    try clear c39b0
                    try clear c39b1
                    try clear c39b2
                    try clear c40
                    try clear p2
                    obtain ⟨kq, x135_29, rfl, HA, HJ29, HO_7, HB⟩ := hcut
                    cases kq with
                    | zero => exact absurd HA.out (by simp [laws_FnBalancedRanks.j2])
                    | succ kj29 =>
                      have H := HA.out
                      clear HA
                      simp only [laws_FnBalancedRanks.j2] at H
                      by_cases c43 : x135_29 = true
                      · subst c43
                        have H1 : (some false) = some r := by rw [if_pos rfl] at H; exact H
                        clear H
                        have H := H1
                        clear H1
                        obtain rfl := Option.some.inj H
                        go_wp2
                        go_ret
                        exact ⟨by first | rfl | (simp [errW_none, errW_some] <;> rfl) | (simp [*, errW_none, errW_some] <;> rfl), by repeat (first | (with_reducible first | exact HB.out | apply below_alloc | apply pw_below_drewN | apply below_drew1) | exact HB.out)⟩
                      · replace c43 := Bool.eq_false_iff.mpr c43
                        subst c43
                        have H1 : ((impl_GrowthOfWord.f kj29 t298).bind fun bt319 => (if t296 = 0 then (some (!bt319.2)) else ((impl_HasCrossing.f kj29 bt319.1).bind fun bt323 => ((impl_WordOfGrowth.f kj29 bt319.1).bind fun bt325 => (if bt319.2 = true then (if bt323.2 = true then (if bt325.2 = true then (if bt323.1 = true then (some false) else ((laws_tSame.f kj29 bt325.1 t298).bind fun t329 => (some t329))) else (some false)) else (some false)) else (some false)))))) = some r := by rw [if_neg (show ¬ (false = true) by decide)] at H; exact H
                        clear H
                        have H := H1
                        clear H1
                        replace H := Option.bind_eq_some_iff.mp H
                        obtain ⟨⟨t319, t320⟩, A440, H⟩ := H
                        replace H : (if t296 = 0 then (some (!t320)) else ((impl_HasCrossing.f kj29 t319).bind fun bt323 => ((impl_WordOfGrowth.f kj29 t319).bind fun bt325 => (if t320 = true then (if bt323.2 = true then (if bt325.2 = true then (if bt323.1 = true then (some false) else ((laws_tSame.f kj29 bt325.1 t298).bind fun t329 => (some t329))) else (some false)) else (some false)) else (some false))))) = some r := H
                        have A44 := Aside0.mk A440
                        clear A440
                        by_cases c45 : t296 = 0
                        · rw [if_pos c45] at H
                          have c45b0 : (t296 == 0) = true := beq_iff_eq.mpr c45
                          have c45b1 : (t296 != 0) = false := bne_eq_false_iff_eq.mpr c45
                          clear c45
                          obtain rfl := Option.some.inj H
                          go_wp2_with (first | ((with_reducible refine gate_callee (f := 62) rfl ?_); refine goesL_ (some 138) rfl rfl Try.func62 (by kernel_rfl) rfl #[.slice Ao31 t298.length co31] rfl (by (try simp only [List.map_toArray, List.map_cons, List.map_nil]); first | done | rfl | (simp only [List.length_drop, List.length_take]; rfl)) ?_; (with_reducible refine (impl_GrowthOfWord.calls kj29 _ _ t298 t319 t320 _ ?side1 ?side2 A44.out).mono ?_); (case side1 => repeat (first | exact (Kd.R_reads' HO_7.out).2.2 | (with_reducible refine Kd.C_alloc ?_ _) | (with_reducible refine Kd.C_drewN ?_ _) | (with_reducible refine Kd.C_drew ?_))); (case side2 => exact (Kd.R_reads' HO_7.out).2.1); rintro e w46 ⟨v321, rfl, ho0, hb⟩; refine ⟨_, rfl, ?_⟩; have n0_ := Aside0.mk (Kd.R_elder' (by (with_reducible repeat (first | apply Kd.R_alloc | apply Kd.R_drewN | apply Kd.R_drew)); (first | exact HO_7.out | (have hz_ := HO_7.out; (try simp only [ob_] at hz_); (try simp only [ob_]); exact hz_))) (Kd.R_base ho0) hb); have n1_ := Aside0.mk (Kd.R_lower (Kd.R_new' ho0 (Kd.R_lt (by (with_reducible repeat (first | apply Kd.R_alloc | apply Kd.R_drewN | apply Kd.R_drew)); (first | exact HO_7.out | (have hz_ := HO_7.out; (try simp only [ob_] at hz_); (try simp only [ob_]); exact hz_))))) (below_size (by repeat (first | (with_reducible first | exact HB.out | apply below_alloc | apply pw_below_drewN | apply below_drew1) | exact HB.out)))); have n2_ := Aside0.mk (below_step (by repeat (first | (with_reducible first | exact HB.out | apply below_alloc | apply pw_below_drewN | apply below_drew1) | exact HB.out)) hb); clear HO_7; clear HB; have HO_7 := n0_; have HO322 := n1_; have HB := n2_; clear n0_ n1_ n2_; (try clear hb); (try clear hb2); (try clear hk); (try clear hi); (try clear ho0)))
                          go_ret
                          exact ⟨by first | rfl | (simp [errW_none, errW_some] <;> rfl) | (simp [*, errW_none, errW_some] <;> rfl), by repeat (first | (with_reducible first | exact HB.out | apply below_alloc | apply pw_below_drewN | apply below_drew1) | exact HB.out)⟩
                        · rw [if_neg c45] at H
                          have c45b0 : (t296 == 0) = false := beq_eq_false_iff_ne.mpr c45
                          have c45b1 : (t296 != 0) = true := bne_iff_ne.mpr c45
                          replace H := Option.bind_eq_some_iff.mp H
                          obtain ⟨⟨t323, t324⟩, A470, H⟩ := H
                          replace H : ((impl_WordOfGrowth.f kj29 t319).bind fun bt325 => (if t320 = true then (if t324 = true then (if bt325.2 = true then (if t323 = true then (some false) else ((laws_tSame.f kj29 bt325.1 t298).bind fun t329 => (some t329))) else (some false)) else (some false)) else (some false))) = some r := H
                          have A47 := Aside0.mk A470
                          clear A470
                          replace H := Option.bind_eq_some_iff.mp H
                          obtain ⟨⟨t325, t326⟩, A480, H⟩ := H
                          replace H : (if t320 = true then (if t324 = true then (if t326 = true then (if t323 = true then (some false) else ((laws_tSame.f kj29 t325 t298).bind fun t329 => (some t329))) else (some false)) else (some false)) else (some false)) = some r := H
                          have A48 := Aside0.mk A480
                          clear A480
                          by_cases c49 : t320 = true
                          · subst c49
                            have H1 : (if t324 = true then (if t326 = true then (if t323 = true then (some false) else ((laws_tSame.f kj29 t325 t298).bind fun t329 => (some t329))) else (some false)) else (some false)) = some r := by rw [if_pos rfl] at H; exact H
                            clear H
                            have H := H1
                            clear H1
                            by_cases c50 : t324 = true
                            · subst c50
                              have H1 : (if t326 = true then (if t323 = true then (some false) else ((laws_tSame.f kj29 t325 t298).bind fun t329 => (some t329))) else (some false)) = some r := by rw [if_pos rfl] at H; exact H
                              clear H
                              have H := H1
                              clear H1
                              by_cases c51 : t326 = true
                              · subst c51
                                have H1 : (if t323 = true then (some false) else ((laws_tSame.f kj29 t325 t298).bind fun t329 => (some t329))) = some r := by rw [if_pos rfl] at H; exact H
                                clear H
                                have H := H1
                                clear H1
                                by_cases c52 : t323 = true
                                · subst c52
                                  have H1 : (some false) = some r := by rw [if_pos rfl] at H; exact H
                                  clear H
                                  have H := H1
                                  clear H1
                                  obtain rfl := Option.some.inj H
                                  go_wp2_with (first | ((with_reducible refine gate_callee (f := 62) rfl ?_); refine goesL_ (some 138) rfl rfl Try.func62 (by kernel_rfl) rfl #[.slice Ao31 t298.length co31] rfl (by (try simp only [List.map_toArray, List.map_cons, List.map_nil]); first | done | rfl | (simp only [List.length_drop, List.length_take]; rfl)) ?_; (with_reducible refine (impl_GrowthOfWord.calls kj29 _ _ t298 t319 true _ ?side1 ?side2 A44.out).mono ?_); (case side1 => repeat (first | exact (Kd.R_reads' HO_7.out).2.2 | (with_reducible refine Kd.C_alloc ?_ _) | (with_reducible refine Kd.C_drewN ?_ _) | (with_reducible refine Kd.C_drew ?_))); (case side2 => exact (Kd.R_reads' HO_7.out).2.1); rintro e w53 ⟨v321, rfl, ho0, hb⟩; refine ⟨_, rfl, ?_⟩; have n0_ := Aside0.mk (Kd.R_elder' (by (with_reducible repeat (first | apply Kd.R_alloc | apply Kd.R_drewN | apply Kd.R_drew)); (first | exact HO_7.out | (have hz_ := HO_7.out; (try simp only [ob_] at hz_); (try simp only [ob_]); exact hz_))) (Kd.R_base ho0) hb); have n1_ := Aside0.mk (Kd.R_lower (Kd.R_new' ho0 (Kd.R_lt (by (with_reducible repeat (first | apply Kd.R_alloc | apply Kd.R_drewN | apply Kd.R_drew)); (first | exact HO_7.out | (have hz_ := HO_7.out; (try simp only [ob_] at hz_); (try simp only [ob_]); exact hz_))))) (below_size (by repeat (first | (with_reducible first | exact HB.out | apply below_alloc | apply pw_below_drewN | apply below_drew1) | exact HB.out)))); have n2_ := Aside0.mk (below_step (by repeat (first | (with_reducible first | exact HB.out | apply below_alloc | apply pw_below_drewN | apply below_drew1) | exact HB.out)) hb); clear HO_7; clear HB; have HO_7 := n0_; have HO322 := n1_; have HB := n2_; clear n0_ n1_ n2_; (try clear hb); (try clear hb2); (try clear hk); (try clear hi); (try clear ho0); obtain ⟨Ao54, co54, eo54⟩ := Kd.R_slice HO322.out; subst eo54) | ((with_reducible refine gate_callee (f := 63) rfl ?_); refine goesL_ (some 147) rfl rfl Try.func63 (by kernel_rfl) rfl #[.slice Ao54 t319.length co54] rfl (by (try simp only [List.map_toArray, List.map_cons, List.map_nil]); first | done | rfl | (simp only [List.length_drop, List.length_take]; rfl)) ?_; (with_reducible refine (impl_HasCrossing.calls kj29 _ _ t319 true true _ ?side1 ?side2 A47.out).mono ?_); (case side1 => repeat (first | exact (Kd.R_reads' HO322.out).2.2 | (with_reducible refine Kd.C_alloc ?_ _) | (with_reducible refine Kd.C_drewN ?_ _) | (with_reducible refine Kd.C_drew ?_))); (case side2 => exact (Kd.R_reads' HO322.out).2.1); rintro e w55 ⟨rfl, hb⟩; refine ⟨_, rfl, ?_⟩; have n0_ := Aside0.mk (Kd.R_below (by (with_reducible repeat (first | apply Kd.R_alloc | apply Kd.R_drewN | apply Kd.R_drew)); (first | exact HO_7.out | (have hz_ := HO_7.out; (try simp only [ob_] at hz_); (try simp only [ob_]); exact hz_))) hb); have n1_ := Aside0.mk (Kd.R_below (by (with_reducible repeat (first | apply Kd.R_alloc | apply Kd.R_drewN | apply Kd.R_drew)); (first | exact HO322.out | (have hz_ := HO322.out; (try simp only [ob_] at hz_); (try simp only [ob_]); exact hz_))) hb); have n2_ := Aside0.mk (below_step (by repeat (first | (with_reducible first | exact HB.out | apply below_alloc | apply pw_below_drewN | apply below_drew1) | exact HB.out)) hb); clear HO_7; clear HO322; clear HB; have HO_7 := n0_; have HO322 := n1_; have HB := n2_; clear n0_ n1_ n2_; (try clear hb); (try clear hb2); (try clear hk); (try clear hi)) | ((with_reducible refine gate_callee (f := 64) rfl ?_); refine goesL_ (some 152) rfl rfl Try.func64 (by kernel_rfl) rfl #[.slice Ao54 t319.length co54] rfl (by (try simp only [List.map_toArray, List.map_cons, List.map_nil]); first | done | rfl | (simp only [List.length_drop, List.length_take]; rfl)) ?_; (with_reducible refine (impl_WordOfGrowth.calls kj29 _ _ t319 t325 true _ ?side1 ?side2 A48.out).mono ?_); (case side1 => repeat (first | exact (Kd.R_reads' HO322.out).2.2 | (with_reducible refine Kd.C_alloc ?_ _) | (with_reducible refine Kd.C_drewN ?_ _) | (with_reducible refine Kd.C_drew ?_))); (case side2 => exact (Kd.R_reads' HO322.out).2.1); rintro e w56 ⟨v327, rfl, ho0, hb⟩; refine ⟨_, rfl, ?_⟩; have n0_ := Aside0.mk (Kd.R_elder' (by (with_reducible repeat (first | apply Kd.R_alloc | apply Kd.R_drewN | apply Kd.R_drew)); (first | exact HO_7.out | (have hz_ := HO_7.out; (try simp only [ob_] at hz_); (try simp only [ob_]); exact hz_))) (Kd.R_base ho0) hb); have n1_ := Aside0.mk (Kd.R_elder' (by (with_reducible repeat (first | apply Kd.R_alloc | apply Kd.R_drewN | apply Kd.R_drew)); (first | exact HO322.out | (have hz_ := HO322.out; (try simp only [ob_] at hz_); (try simp only [ob_]); exact hz_))) (Kd.R_base ho0) hb); have n2_ := Aside0.mk (Kd.R_lower (Kd.R_new' (Kd.R_new' ho0 (Kd.R_lt (by (with_reducible repeat (first | apply Kd.R_alloc | apply Kd.R_drewN | apply Kd.R_drew)); (first | exact HO_7.out | (have hz_ := HO_7.out; (try simp only [ob_] at hz_); (try simp only [ob_]); exact hz_))))) (Kd.R_lt (by (with_reducible repeat (first | apply Kd.R_alloc | apply Kd.R_drewN | apply Kd.R_drew)); (first | exact HO322.out | (have hz_ := HO322.out; (try simp only [ob_] at hz_); (try simp only [ob_]); exact hz_))))) (below_size (by repeat (first | (with_reducible first | exact HB.out | apply below_alloc | apply pw_below_drewN | apply below_drew1) | exact HB.out)))); have n3_ := Aside0.mk (below_step (by repeat (first | (with_reducible first | exact HB.out | apply below_alloc | apply pw_below_drewN | apply below_drew1) | exact HB.out)) hb); clear HO_7; clear HO322; clear HB; have HO_7 := n0_; have HO322 := n1_; have HO328 := n2_; have HB := n3_; clear n0_ n1_ n2_ n3_; (try clear hb); (try clear hb2); (try clear hk); (try clear hi); (try clear ho0)))
                                  go_ret
                                  exact ⟨by first | rfl | (simp [errW_none, errW_some] <;> rfl) | (simp [*, errW_none, errW_some] <;> rfl), by repeat (first | (with_reducible first | exact HB.out | apply below_alloc | apply pw_below_drewN | apply below_drew1) | exact HB.out)⟩
                                · replace c52 := Bool.eq_false_iff.mpr c52
                                  subst c52
                                  have H1 : ((laws_tSame.f kj29 t325 t298).bind fun t329 => (some t329)) = some r := by rw [if_neg (show ¬ (false = true) by decide)] at H; exact H
                                  clear H
                                  have H := H1
                                  clear H1
                                  replace H := Option.bind_eq_some_iff.mp H
                                  obtain ⟨t329, A570, H⟩ := H
                                  replace H : (some t329) = some r := H
                                  have A57 := Aside0.mk A570
                                  clear A570
                                  obtain rfl := Option.some.inj H
                                  go_wp2_with (first | ((with_reducible refine gate_callee (f := 62) rfl ?_); refine goesL_ (some 138) rfl rfl Try.func62 (by kernel_rfl) rfl #[.slice Ao31 t298.length co31] rfl (by (try simp only [List.map_toArray, List.map_cons, List.map_nil]); first | done | rfl | (simp only [List.length_drop, List.length_take]; rfl)) ?_; (with_reducible refine (impl_GrowthOfWord.calls kj29 _ _ t298 t319 true _ ?side1 ?side2 A44.out).mono ?_); (case side1 => repeat (first | exact (Kd.R_reads' HO_7.out).2.2 | (with_reducible refine Kd.C_alloc ?_ _) | (with_reducible refine Kd.C_drewN ?_ _) | (with_reducible refine Kd.C_drew ?_))); (case side2 => exact (Kd.R_reads' HO_7.out).2.1); rintro e w58 ⟨v321, rfl, ho0, hb⟩; refine ⟨_, rfl, ?_⟩; have n0_ := Aside0.mk (Kd.R_elder' (by (with_reducible repeat (first | apply Kd.R_alloc | apply Kd.R_drewN | apply Kd.R_drew)); (first | exact HO_7.out | (have hz_ := HO_7.out; (try simp only [ob_] at hz_); (try simp only [ob_]); exact hz_))) (Kd.R_base ho0) hb); have n1_ := Aside0.mk (Kd.R_lower (Kd.R_new' ho0 (Kd.R_lt (by (with_reducible repeat (first | apply Kd.R_alloc | apply Kd.R_drewN | apply Kd.R_drew)); (first | exact HO_7.out | (have hz_ := HO_7.out; (try simp only [ob_] at hz_); (try simp only [ob_]); exact hz_))))) (below_size (by repeat (first | (with_reducible first | exact HB.out | apply below_alloc | apply pw_below_drewN | apply below_drew1) | exact HB.out)))); have n2_ := Aside0.mk (below_step (by repeat (first | (with_reducible first | exact HB.out | apply below_alloc | apply pw_below_drewN | apply below_drew1) | exact HB.out)) hb); clear HO_7; clear HB; have HO_7 := n0_; have HO322 := n1_; have HB := n2_; clear n0_ n1_ n2_; (try clear hb); (try clear hb2); (try clear hk); (try clear hi); (try clear ho0); obtain ⟨Ao59, co59, eo59⟩ := Kd.R_slice HO322.out; subst eo59) | ((with_reducible refine gate_callee (f := 63) rfl ?_); refine goesL_ (some 147) rfl rfl Try.func63 (by kernel_rfl) rfl #[.slice Ao59 t319.length co59] rfl (by (try simp only [List.map_toArray, List.map_cons, List.map_nil]); first | done | rfl | (simp only [List.length_drop, List.length_take]; rfl)) ?_; (with_reducible refine (impl_HasCrossing.calls kj29 _ _ t319 false true _ ?side1 ?side2 A47.out).mono ?_); (case side1 => repeat (first | exact (Kd.R_reads' HO322.out).2.2 | (with_reducible refine Kd.C_alloc ?_ _) | (with_reducible refine Kd.C_drewN ?_ _) | (with_reducible refine Kd.C_drew ?_))); (case side2 => exact (Kd.R_reads' HO322.out).2.1); rintro e w60 ⟨rfl, hb⟩; refine ⟨_, rfl, ?_⟩; have n0_ := Aside0.mk (Kd.R_below (by (with_reducible repeat (first | apply Kd.R_alloc | apply Kd.R_drewN | apply Kd.R_drew)); (first | exact HO_7.out | (have hz_ := HO_7.out; (try simp only [ob_] at hz_); (try simp only [ob_]); exact hz_))) hb); have n1_ := Aside0.mk (Kd.R_below (by (with_reducible repeat (first | apply Kd.R_alloc | apply Kd.R_drewN | apply Kd.R_drew)); (first | exact HO322.out | (have hz_ := HO322.out; (try simp only [ob_] at hz_); (try simp only [ob_]); exact hz_))) hb); have n2_ := Aside0.mk (below_step (by repeat (first | (with_reducible first | exact HB.out | apply below_alloc | apply pw_below_drewN | apply below_drew1) | exact HB.out)) hb); clear HO_7; clear HO322; clear HB; have HO_7 := n0_; have HO322 := n1_; have HB := n2_; clear n0_ n1_ n2_; (try clear hb); (try clear hb2); (try clear hk); (try clear hi)) | ((with_reducible refine gate_callee (f := 64) rfl ?_); refine goesL_ (some 152) rfl rfl Try.func64 (by kernel_rfl) rfl #[.slice Ao59 t319.length co59] rfl (by (try simp only [List.map_toArray, List.map_cons, List.map_nil]); first | done | rfl | (simp only [List.length_drop, List.length_take]; rfl)) ?_; (with_reducible refine (impl_WordOfGrowth.calls kj29 _ _ t319 t325 true _ ?side1 ?side2 A48.out).mono ?_); (case side1 => repeat (first | exact (Kd.R_reads' HO322.out).2.2 | (with_reducible refine Kd.C_alloc ?_ _) | (with_reducible refine Kd.C_drewN ?_ _) | (with_reducible refine Kd.C_drew ?_))); (case side2 => exact (Kd.R_reads' HO322.out).2.1); rintro e w61 ⟨v327, rfl, ho0, hb⟩; refine ⟨_, rfl, ?_⟩; have n0_ := Aside0.mk (Kd.R_elder' (by (with_reducible repeat (first | apply Kd.R_alloc | apply Kd.R_drewN | apply Kd.R_drew)); (first | exact HO_7.out | (have hz_ := HO_7.out; (try simp only [ob_] at hz_); (try simp only [ob_]); exact hz_))) (Kd.R_base ho0) hb); have n1_ := Aside0.mk (Kd.R_elder' (by (with_reducible repeat (first | apply Kd.R_alloc | apply Kd.R_drewN | apply Kd.R_drew)); (first | exact HO322.out | (have hz_ := HO322.out; (try simp only [ob_] at hz_); (try simp only [ob_]); exact hz_))) (Kd.R_base ho0) hb); have n2_ := Aside0.mk (Kd.R_lower (Kd.R_new' (Kd.R_new' ho0 (Kd.R_lt (by (with_reducible repeat (first | apply Kd.R_alloc | apply Kd.R_drewN | apply Kd.R_drew)); (first | exact HO_7.out | (have hz_ := HO_7.out; (try simp only [ob_] at hz_); (try simp only [ob_]); exact hz_))))) (Kd.R_lt (by (with_reducible repeat (first | apply Kd.R_alloc | apply Kd.R_drewN | apply Kd.R_drew)); (first | exact HO322.out | (have hz_ := HO322.out; (try simp only [ob_] at hz_); (try simp only [ob_]); exact hz_))))) (below_size (by repeat (first | (with_reducible first | exact HB.out | apply below_alloc | apply pw_below_drewN | apply below_drew1) | exact HB.out)))); have n3_ := Aside0.mk (below_step (by repeat (first | (with_reducible first | exact HB.out | apply below_alloc | apply pw_below_drewN | apply below_drew1) | exact HB.out)) hb); clear HO_7; clear HO322; clear HB; have HO_7 := n0_; have HO322 := n1_; have HO328 := n2_; have HB := n3_; clear n0_ n1_ n2_ n3_; (try clear hb); (try clear hb2); (try clear hk); (try clear hi); (try clear ho0); obtain ⟨Ao62, co62, eo62⟩ := Kd.R_slice HO328.out; subst eo62) | (go_at_call 30; (with_reducible refine (laws_tSame.calls kj29 _ _ t325 _ _ t298 t329 _ ?side1 ?side2 ?side3 ?side4 A57.out).mono ?_); (case side1 => repeat (first | exact (Kd.R_reads' HO328.out).2.2 | (with_reducible refine Kd.C_alloc ?_ _) | (with_reducible refine Kd.C_drewN ?_ _) | (with_reducible refine Kd.C_drew ?_))); (case side2 => exact (Kd.R_reads' HO328.out).2.1); (case side3 => repeat (first | exact (Kd.R_reads' HO_7.out).2.2 | (with_reducible refine Kd.C_alloc ?_ _) | (with_reducible refine Kd.C_drewN ?_ _) | (with_reducible refine Kd.C_drew ?_))); (case side4 => exact (Kd.R_reads' HO_7.out).2.1); rintro e w' ⟨rfl, ⟨nd, rfl⟩⟩))
                                  go_ret
                                  exact ⟨by first | rfl | (simp [errW_none, errW_some] <;> rfl) | (simp [*, errW_none, errW_some] <;> rfl), by repeat (first | (with_reducible first | exact HB.out | apply below_alloc | apply pw_below_drewN | apply below_drew1) | exact HB.out)⟩
                              · replace c51 := Bool.eq_false_iff.mpr c51
                                subst c51
                                have H1 : (some false) = some r := by rw [if_neg (show ¬ (false = true) by decide)] at H; exact H
                                clear H
                                have H := H1
                                clear H1
                                obtain rfl := Option.some.inj H
                                go_wp2_with (first | ((with_reducible refine gate_callee (f := 62) rfl ?_); refine goesL_ (some 138) rfl rfl Try.func62 (by kernel_rfl) rfl #[.slice Ao31 t298.length co31] rfl (by (try simp only [List.map_toArray, List.map_cons, List.map_nil]); first | done | rfl | (simp only [List.length_drop, List.length_take]; rfl)) ?_; (with_reducible refine (impl_GrowthOfWord.calls kj29 _ _ t298 t319 true _ ?side1 ?side2 A44.out).mono ?_); (case side1 => repeat (first | exact (Kd.R_reads' HO_7.out).2.2 | (with_reducible refine Kd.C_alloc ?_ _) | (with_reducible refine Kd.C_drewN ?_ _) | (with_reducible refine Kd.C_drew ?_))); (case side2 => exact (Kd.R_reads' HO_7.out).2.1); rintro e w63 ⟨v321, rfl, ho0, hb⟩; refine ⟨_, rfl, ?_⟩; have n0_ := Aside0.mk (Kd.R_elder' (by (with_reducible repeat (first | apply Kd.R_alloc | apply Kd.R_drewN | apply Kd.R_drew)); (first | exact HO_7.out | (have hz_ := HO_7.out; (try simp only [ob_] at hz_); (try simp only [ob_]); exact hz_))) (Kd.R_base ho0) hb); have n1_ := Aside0.mk (Kd.R_lower (Kd.R_new' ho0 (Kd.R_lt (by (with_reducible repeat (first | apply Kd.R_alloc | apply Kd.R_drewN | apply Kd.R_drew)); (first | exact HO_7.out | (have hz_ := HO_7.out; (try simp only [ob_] at hz_); (try simp only [ob_]); exact hz_))))) (below_size (by repeat (first | (with_reducible first | exact HB.out | apply below_alloc | apply pw_below_drewN | apply below_drew1) | exact HB.out)))); have n2_ := Aside0.mk (below_step (by repeat (first | (with_reducible first | exact HB.out | apply below_alloc | apply pw_below_drewN | apply below_drew1) | exact HB.out)) hb); clear HO_7; clear HB; have HO_7 := n0_; have HO322 := n1_; have HB := n2_; clear n0_ n1_ n2_; (try clear hb); (try clear hb2); (try clear hk); (try clear hi); (try clear ho0); obtain ⟨Ao64, co64, eo64⟩ := Kd.R_slice HO322.out; subst eo64) | ((with_reducible refine gate_callee (f := 63) rfl ?_); refine goesL_ (some 147) rfl rfl Try.func63 (by kernel_rfl) rfl #[.slice Ao64 t319.length co64] rfl (by (try simp only [List.map_toArray, List.map_cons, List.map_nil]); first | done | rfl | (simp only [List.length_drop, List.length_take]; rfl)) ?_; (with_reducible refine (impl_HasCrossing.calls kj29 _ _ t319 t323 true _ ?side1 ?side2 A47.out).mono ?_); (case side1 => repeat (first | exact (Kd.R_reads' HO322.out).2.2 | (with_reducible refine Kd.C_alloc ?_ _) | (with_reducible refine Kd.C_drewN ?_ _) | (with_reducible refine Kd.C_drew ?_))); (case side2 => exact (Kd.R_reads' HO322.out).2.1); rintro e w65 ⟨rfl, hb⟩; refine ⟨_, rfl, ?_⟩; have n0_ := Aside0.mk (Kd.R_below (by (with_reducible repeat (first | apply Kd.R_alloc | apply Kd.R_drewN | apply Kd.R_drew)); (first | exact HO_7.out | (have hz_ := HO_7.out; (try simp only [ob_] at hz_); (try simp only [ob_]); exact hz_))) hb); have n1_ := Aside0.mk (Kd.R_below (by (with_reducible repeat (first | apply Kd.R_alloc | apply Kd.R_drewN | apply Kd.R_drew)); (first | exact HO322.out | (have hz_ := HO322.out; (try simp only [ob_] at hz_); (try simp only [ob_]); exact hz_))) hb); have n2_ := Aside0.mk (below_step (by repeat (first | (with_reducible first | exact HB.out | apply below_alloc | apply pw_below_drewN | apply below_drew1) | exact HB.out)) hb); clear HO_7; clear HO322; clear HB; have HO_7 := n0_; have HO322 := n1_; have HB := n2_; clear n0_ n1_ n2_; (try clear hb); (try clear hb2); (try clear hk); (try clear hi)) | ((with_reducible refine gate_callee (f := 64) rfl ?_); refine goesL_ (some 152) rfl rfl Try.func64 (by kernel_rfl) rfl #[.slice Ao64 t319.length co64] rfl (by (try simp only [List.map_toArray, List.map_cons, List.map_nil]); first | done | rfl | (simp only [List.length_drop, List.length_take]; rfl)) ?_; (with_reducible refine (impl_WordOfGrowth.calls kj29 _ _ t319 t325 false _ ?side1 ?side2 A48.out).mono ?_); (case side1 => repeat (first | exact (Kd.R_reads' HO322.out).2.2 | (with_reducible refine Kd.C_alloc ?_ _) | (with_reducible refine Kd.C_drewN ?_ _) | (with_reducible refine Kd.C_drew ?_))); (case side2 => exact (Kd.R_reads' HO322.out).2.1); rintro e w66 ⟨v327, rfl, ho0, hb⟩; refine ⟨_, rfl, ?_⟩; have n0_ := Aside0.mk (Kd.R_elder' (by (with_reducible repeat (first | apply Kd.R_alloc | apply Kd.R_drewN | apply Kd.R_drew)); (first | exact HO_7.out | (have hz_ := HO_7.out; (try simp only [ob_] at hz_); (try simp only [ob_]); exact hz_))) (Kd.R_base ho0) hb); have n1_ := Aside0.mk (Kd.R_elder' (by (with_reducible repeat (first | apply Kd.R_alloc | apply Kd.R_drewN | apply Kd.R_drew)); (first | exact HO322.out | (have hz_ := HO322.out; (try simp only [ob_] at hz_); (try simp only [ob_]); exact hz_))) (Kd.R_base ho0) hb); have n2_ := Aside0.mk (Kd.R_lower (Kd.R_new' (Kd.R_new' ho0 (Kd.R_lt (by (with_reducible repeat (first | apply Kd.R_alloc | apply Kd.R_drewN | apply Kd.R_drew)); (first | exact HO_7.out | (have hz_ := HO_7.out; (try simp only [ob_] at hz_); (try simp only [ob_]); exact hz_))))) (Kd.R_lt (by (with_reducible repeat (first | apply Kd.R_alloc | apply Kd.R_drewN | apply Kd.R_drew)); (first | exact HO322.out | (have hz_ := HO322.out; (try simp only [ob_] at hz_); (try simp only [ob_]); exact hz_))))) (below_size (by repeat (first | (with_reducible first | exact HB.out | apply below_alloc | apply pw_below_drewN | apply below_drew1) | exact HB.out)))); have n3_ := Aside0.mk (below_step (by repeat (first | (with_reducible first | exact HB.out | apply below_alloc | apply pw_below_drewN | apply below_drew1) | exact HB.out)) hb); clear HO_7; clear HO322; clear HB; have HO_7 := n0_; have HO322 := n1_; have HO328 := n2_; have HB := n3_; clear n0_ n1_ n2_ n3_; (try clear hb); (try clear hb2); (try clear hk); (try clear hi); (try clear ho0)))
                                go_ret
                                exact ⟨by first | rfl | (simp [errW_none, errW_some] <;> rfl) | (simp [*, errW_none, errW_some] <;> rfl), by repeat (first | (with_reducible first | exact HB.out | apply below_alloc | apply pw_below_drewN | apply below_drew1) | exact HB.out)⟩
                            · replace c50 := Bool.eq_false_iff.mpr c50
                              subst c50
                              have H1 : (some false) = some r := by rw [if_neg (show ¬ (false = true) by decide)] at H; exact H
                              clear H
                              have H := H1
                              clear H1
                              obtain rfl := Option.some.inj H
                              go_wp2_with (first | ((with_reducible refine gate_callee (f := 62) rfl ?_); refine goesL_ (some 138) rfl rfl Try.func62 (by kernel_rfl) rfl #[.slice Ao31 t298.length co31] rfl (by (try simp only [List.map_toArray, List.map_cons, List.map_nil]); first | done | rfl | (simp only [List.length_drop, List.length_take]; rfl)) ?_; (with_reducible refine (impl_GrowthOfWord.calls kj29 _ _ t298 t319 true _ ?side1 ?side2 A44.out).mono ?_); (case side1 => repeat (first | exact (Kd.R_reads' HO_7.out).2.2 | (with_reducible refine Kd.C_alloc ?_ _) | (with_reducible refine Kd.C_drewN ?_ _) | (with_reducible refine Kd.C_drew ?_))); (case side2 => exact (Kd.R_reads' HO_7.out).2.1); rintro e w67 ⟨v321, rfl, ho0, hb⟩; refine ⟨_, rfl, ?_⟩; have n0_ := Aside0.mk (Kd.R_elder' (by (with_reducible repeat (first | apply Kd.R_alloc | apply Kd.R_drewN | apply Kd.R_drew)); (first | exact HO_7.out | (have hz_ := HO_7.out; (try simp only [ob_] at hz_); (try simp only [ob_]); exact hz_))) (Kd.R_base ho0) hb); have n1_ := Aside0.mk (Kd.R_lower (Kd.R_new' ho0 (Kd.R_lt (by (with_reducible repeat (first | apply Kd.R_alloc | apply Kd.R_drewN | apply Kd.R_drew)); (first | exact HO_7.out | (have hz_ := HO_7.out; (try simp only [ob_] at hz_); (try simp only [ob_]); exact hz_))))) (below_size (by repeat (first | (with_reducible first | exact HB.out | apply below_alloc | apply pw_below_drewN | apply below_drew1) | exact HB.out)))); have n2_ := Aside0.mk (below_step (by repeat (first | (with_reducible first | exact HB.out | apply below_alloc | apply pw_below_drewN | apply below_drew1) | exact HB.out)) hb); clear HO_7; clear HB; have HO_7 := n0_; have HO322 := n1_; have HB := n2_; clear n0_ n1_ n2_; (try clear hb); (try clear hb2); (try clear hk); (try clear hi); (try clear ho0); obtain ⟨Ao68, co68, eo68⟩ := Kd.R_slice HO322.out; subst eo68) | ((with_reducible refine gate_callee (f := 63) rfl ?_); refine goesL_ (some 147) rfl rfl Try.func63 (by kernel_rfl) rfl #[.slice Ao68 t319.length co68] rfl (by (try simp only [List.map_toArray, List.map_cons, List.map_nil]); first | done | rfl | (simp only [List.length_drop, List.length_take]; rfl)) ?_; (with_reducible refine (impl_HasCrossing.calls kj29 _ _ t319 t323 false _ ?side1 ?side2 A47.out).mono ?_); (case side1 => repeat (first | exact (Kd.R_reads' HO322.out).2.2 | (with_reducible refine Kd.C_alloc ?_ _) | (with_reducible refine Kd.C_drewN ?_ _) | (with_reducible refine Kd.C_drew ?_))); (case side2 => exact (Kd.R_reads' HO322.out).2.1); rintro e w69 ⟨rfl, hb⟩; refine ⟨_, rfl, ?_⟩; have n0_ := Aside0.mk (Kd.R_below (by (with_reducible repeat (first | apply Kd.R_alloc | apply Kd.R_drewN | apply Kd.R_drew)); (first | exact HO_7.out | (have hz_ := HO_7.out; (try simp only [ob_] at hz_); (try simp only [ob_]); exact hz_))) hb); have n1_ := Aside0.mk (Kd.R_below (by (with_reducible repeat (first | apply Kd.R_alloc | apply Kd.R_drewN | apply Kd.R_drew)); (first | exact HO322.out | (have hz_ := HO322.out; (try simp only [ob_] at hz_); (try simp only [ob_]); exact hz_))) hb); have n2_ := Aside0.mk (below_step (by repeat (first | (with_reducible first | exact HB.out | apply below_alloc | apply pw_below_drewN | apply below_drew1) | exact HB.out)) hb); clear HO_7; clear HO322; clear HB; have HO_7 := n0_; have HO322 := n1_; have HB := n2_; clear n0_ n1_ n2_; (try clear hb); (try clear hb2); (try clear hk); (try clear hi)) | ((with_reducible refine gate_callee (f := 64) rfl ?_); refine goesL_ (some 152) rfl rfl Try.func64 (by kernel_rfl) rfl #[.slice Ao68 t319.length co68] rfl (by (try simp only [List.map_toArray, List.map_cons, List.map_nil]); first | done | rfl | (simp only [List.length_drop, List.length_take]; rfl)) ?_; (with_reducible refine (impl_WordOfGrowth.calls kj29 _ _ t319 t325 t326 _ ?side1 ?side2 A48.out).mono ?_); (case side1 => repeat (first | exact (Kd.R_reads' HO322.out).2.2 | (with_reducible refine Kd.C_alloc ?_ _) | (with_reducible refine Kd.C_drewN ?_ _) | (with_reducible refine Kd.C_drew ?_))); (case side2 => exact (Kd.R_reads' HO322.out).2.1); rintro e w70 ⟨v327, rfl, ho0, hb⟩; refine ⟨_, rfl, ?_⟩; have n0_ := Aside0.mk (Kd.R_elder' (by (with_reducible repeat (first | apply Kd.R_alloc | apply Kd.R_drewN | apply Kd.R_drew)); (first | exact HO_7.out | (have hz_ := HO_7.out; (try simp only [ob_] at hz_); (try simp only [ob_]); exact hz_))) (Kd.R_base ho0) hb); have n1_ := Aside0.mk (Kd.R_elder' (by (with_reducible repeat (first | apply Kd.R_alloc | apply Kd.R_drewN | apply Kd.R_drew)); (first | exact HO322.out | (have hz_ := HO322.out; (try simp only [ob_] at hz_); (try simp only [ob_]); exact hz_))) (Kd.R_base ho0) hb); have n2_ := Aside0.mk (Kd.R_lower (Kd.R_new' (Kd.R_new' ho0 (Kd.R_lt (by (with_reducible repeat (first | apply Kd.R_alloc | apply Kd.R_drewN | apply Kd.R_drew)); (first | exact HO_7.out | (have hz_ := HO_7.out; (try simp only [ob_] at hz_); (try simp only [ob_]); exact hz_))))) (Kd.R_lt (by (with_reducible repeat (first | apply Kd.R_alloc | apply Kd.R_drewN | apply Kd.R_drew)); (first | exact HO322.out | (have hz_ := HO322.out; (try simp only [ob_] at hz_); (try simp only [ob_]); exact hz_))))) (below_size (by repeat (first | (with_reducible first | exact HB.out | apply below_alloc | apply pw_below_drewN | apply below_drew1) | exact HB.out)))); have n3_ := Aside0.mk (below_step (by repeat (first | (with_reducible first | exact HB.out | apply below_alloc | apply pw_below_drewN | apply below_drew1) | exact HB.out)) hb); clear HO_7; clear HO322; clear HB; have HO_7 := n0_; have HO322 := n1_; have HO328 := n2_; have HB := n3_; clear n0_ n1_ n2_ n3_; (try clear hb); (try clear hb2); (try clear hk); (try clear hi); (try clear ho0)))
                              go_ret
                              exact ⟨by first | rfl | (simp [errW_none, errW_some] <;> rfl) | (simp [*, errW_none, errW_some] <;> rfl), by repeat (first | (with_reducible first | exact HB.out | apply below_alloc | apply pw_below_drewN | apply below_drew1) | exact HB.out)⟩
                          · replace c49 := Bool.eq_false_iff.mpr c49
                            subst c49
                            have H1 : (some false) = some r := by rw [if_neg (show ¬ (false = true) by decide)] at H; exact H
                            clear H
                            have H := H1
                            clear H1
                            obtain rfl := Option.some.inj H
                            go_wp2_with (first | ((with_reducible refine gate_callee (f := 62) rfl ?_); refine goesL_ (some 138) rfl rfl Try.func62 (by kernel_rfl) rfl #[.slice Ao31 t298.length co31] rfl (by (try simp only [List.map_toArray, List.map_cons, List.map_nil]); first | done | rfl | (simp only [List.length_drop, List.length_take]; rfl)) ?_; (with_reducible refine (impl_GrowthOfWord.calls kj29 _ _ t298 t319 false _ ?side1 ?side2 A44.out).mono ?_); (case side1 => repeat (first | exact (Kd.R_reads' HO_7.out).2.2 | (with_reducible refine Kd.C_alloc ?_ _) | (with_reducible refine Kd.C_drewN ?_ _) | (with_reducible refine Kd.C_drew ?_))); (case side2 => exact (Kd.R_reads' HO_7.out).2.1); rintro e w71 ⟨v321, rfl, ho0, hb⟩; refine ⟨_, rfl, ?_⟩; have n0_ := Aside0.mk (Kd.R_elder' (by (with_reducible repeat (first | apply Kd.R_alloc | apply Kd.R_drewN | apply Kd.R_drew)); (first | exact HO_7.out | (have hz_ := HO_7.out; (try simp only [ob_] at hz_); (try simp only [ob_]); exact hz_))) (Kd.R_base ho0) hb); have n1_ := Aside0.mk (Kd.R_lower (Kd.R_new' ho0 (Kd.R_lt (by (with_reducible repeat (first | apply Kd.R_alloc | apply Kd.R_drewN | apply Kd.R_drew)); (first | exact HO_7.out | (have hz_ := HO_7.out; (try simp only [ob_] at hz_); (try simp only [ob_]); exact hz_))))) (below_size (by repeat (first | (with_reducible first | exact HB.out | apply below_alloc | apply pw_below_drewN | apply below_drew1) | exact HB.out)))); have n2_ := Aside0.mk (below_step (by repeat (first | (with_reducible first | exact HB.out | apply below_alloc | apply pw_below_drewN | apply below_drew1) | exact HB.out)) hb); clear HO_7; clear HB; have HO_7 := n0_; have HO322 := n1_; have HB := n2_; clear n0_ n1_ n2_; (try clear hb); (try clear hb2); (try clear hk); (try clear hi); (try clear ho0); obtain ⟨Ao72, co72, eo72⟩ := Kd.R_slice HO322.out; subst eo72) | ((with_reducible refine gate_callee (f := 63) rfl ?_); refine goesL_ (some 147) rfl rfl Try.func63 (by kernel_rfl) rfl #[.slice Ao72 t319.length co72] rfl (by (try simp only [List.map_toArray, List.map_cons, List.map_nil]); first | done | rfl | (simp only [List.length_drop, List.length_take]; rfl)) ?_; (with_reducible refine (impl_HasCrossing.calls kj29 _ _ t319 t323 t324 _ ?side1 ?side2 A47.out).mono ?_); (case side1 => repeat (first | exact (Kd.R_reads' HO322.out).2.2 | (with_reducible refine Kd.C_alloc ?_ _) | (with_reducible refine Kd.C_drewN ?_ _) | (with_reducible refine Kd.C_drew ?_))); (case side2 => exact (Kd.R_reads' HO322.out).2.1); rintro e w73 ⟨rfl, hb⟩; refine ⟨_, rfl, ?_⟩; have n0_ := Aside0.mk (Kd.R_below (by (with_reducible repeat (first | apply Kd.R_alloc | apply Kd.R_drewN | apply Kd.R_drew)); (first | exact HO_7.out | (have hz_ := HO_7.out; (try simp only [ob_] at hz_); (try simp only [ob_]); exact hz_))) hb); have n1_ := Aside0.mk (Kd.R_below (by (with_reducible repeat (first | apply Kd.R_alloc | apply Kd.R_drewN | apply Kd.R_drew)); (first | exact HO322.out | (have hz_ := HO322.out; (try simp only [ob_] at hz_); (try simp only [ob_]); exact hz_))) hb); have n2_ := Aside0.mk (below_step (by repeat (first | (with_reducible first | exact HB.out | apply below_alloc | apply pw_below_drewN | apply below_drew1) | exact HB.out)) hb); clear HO_7; clear HO322; clear HB; have HO_7 := n0_; have HO322 := n1_; have HB := n2_; clear n0_ n1_ n2_; (try clear hb); (try clear hb2); (try clear hk); (try clear hi)) | ((with_reducible refine gate_callee (f := 64) rfl ?_); refine goesL_ (some 152) rfl rfl Try.func64 (by kernel_rfl) rfl #[.slice Ao72 t319.length co72] rfl (by (try simp only [List.map_toArray, List.map_cons, List.map_nil]); first | done | rfl | (simp only [List.length_drop, List.length_take]; rfl)) ?_; (with_reducible refine (impl_WordOfGrowth.calls kj29 _ _ t319 t325 t326 _ ?side1 ?side2 A48.out).mono ?_); (case side1 => repeat (first | exact (Kd.R_reads' HO322.out).2.2 | (with_reducible refine Kd.C_alloc ?_ _) | (with_reducible refine Kd.C_drewN ?_ _) | (with_reducible refine Kd.C_drew ?_))); (case side2 => exact (Kd.R_reads' HO322.out).2.1); rintro e w74 ⟨v327, rfl, ho0, hb⟩; refine ⟨_, rfl, ?_⟩; have n0_ := Aside0.mk (Kd.R_elder' (by (with_reducible repeat (first | apply Kd.R_alloc | apply Kd.R_drewN | apply Kd.R_drew)); (first | exact HO_7.out | (have hz_ := HO_7.out; (try simp only [ob_] at hz_); (try simp only [ob_]); exact hz_))) (Kd.R_base ho0) hb); have n1_ := Aside0.mk (Kd.R_elder' (by (with_reducible repeat (first | apply Kd.R_alloc | apply Kd.R_drewN | apply Kd.R_drew)); (first | exact HO322.out | (have hz_ := HO322.out; (try simp only [ob_] at hz_); (try simp only [ob_]); exact hz_))) (Kd.R_base ho0) hb); have n2_ := Aside0.mk (Kd.R_lower (Kd.R_new' (Kd.R_new' ho0 (Kd.R_lt (by (with_reducible repeat (first | apply Kd.R_alloc | apply Kd.R_drewN | apply Kd.R_drew)); (first | exact HO_7.out | (have hz_ := HO_7.out; (try simp only [ob_] at hz_); (try simp only [ob_]); exact hz_))))) (Kd.R_lt (by (with_reducible repeat (first | apply Kd.R_alloc | apply Kd.R_drewN | apply Kd.R_drew)); (first | exact HO322.out | (have hz_ := HO322.out; (try simp only [ob_] at hz_); (try simp only [ob_]); exact hz_))))) (below_size (by repeat (first | (with_reducible first | exact HB.out | apply below_alloc | apply pw_below_drewN | apply below_drew1) | exact HB.out)))); have n3_ := Aside0.mk (below_step (by repeat (first | (with_reducible first | exact HB.out | apply below_alloc | apply pw_below_drewN | apply below_drew1) | exact HB.out)) hb); clear HO_7; clear HO322; clear HB; have HO_7 := n0_; have HO322 := n1_; have HO328 := n2_; have HB := n3_; clear n0_ n1_ n2_ n3_; (try clear hb); (try clear hb2); (try clear hk); (try clear hi); (try clear ho0)))
                            go_ret
                            exact ⟨by first | rfl | (simp [errW_none, errW_some] <;> rfl) | (simp [*, errW_none, errW_some] <;> rfl), by repeat (first | (with_reducible first | exact HB.out | apply below_alloc | apply pw_below_drewN | apply below_drew1) | exact HB.out)⟩
                · replace c27 := Bool.eq_false_iff.mpr c27
                  subst c27
                  have H1 : (some true) = some r := by rw [if_neg (show ¬ (false = true) by decide)] at H; exact H
                  clear H
                  have H := H1
                  clear H1
                  obtain rfl := Option.some.inj H
                  go_wp2
                  go_ret
                  exact ⟨by first | rfl | (simp [errW_none, errW_some] <;> rfl) | (simp [*, errW_none, errW_some] <;> rfl), by repeat (first | (with_reducible first | exact HB.out | apply below_alloc | apply pw_below_drewN | apply below_drew1) | exact HB.out)⟩

/-- THE ONE PURE STATEMENT of laws_FnBalancedRanks: yours. -/
def laws_FnBalancedRanks.Pure : Prop := ∀ (l0 : List Int) (l1 : List Int), l0.length ≤ maxLen → l0.length * 1 ≤ 140737488351232 → (∀ x ∈ l0, (Lit.int .u8 x).wf = true) → l1.length ≤ maxLen → l1.length * 1 ≤ 140737488351232 → (∀ x ∈ l1, (Lit.int .u8 x).wf = true) → ∃ k, laws_FnBalancedRanks.f k l0 l1 = some true
theorem laws_FnBalancedRanks.walk (P : laws_FnBalancedRanks.Pure) (a0 : Option Addr) (len0 cap0 : Nat) (z0 : List Int) (a1 : Option Addr) (len1 cap1 : Nat) (z1 : List Int) (w : World) (w0 : (a0 = none ∧ len0 = 0 ∧ cap0 = 0 ∧ z0 = []) ∨ ∃ x, a0 = some x ∧ len0 ≤ cap0 ∧ cap0 ≤ maxLen ∧ z0.length = cap0 ∧ (∀ i, i < z0.length → w.cell? (x.add i) = some (.int .u8 (z0.getD i 0))) ∧ ∀ n ∈ z0, (Lit.int .u8 n).wf = true) (y0 : len0 * 1 ≤ 140737488351232) (w1 : (a1 = none ∧ len1 = 0 ∧ cap1 = 0 ∧ z1 = []) ∨ ∃ x, a1 = some x ∧ len1 ≤ cap1 ∧ cap1 ≤ maxLen ∧ z1.length = cap1 ∧ (∀ i, i < z1.length → w.cell? (x.add i) = some (.int .u8 (z1.getD i 0))) ∧ ∀ n ∈ z1, (Lit.int .u8 n).wf = true) (y1 : len1 * 1 ≤ 140737488351232) :
    Calls Try.prog 11 #[.slice a0 len0 cap0, .slice a1 len1 cap1] w fun e w' => e = .returned (.bool true) ∧ Below w.heap.size w w' := by
  obtain ⟨l0, rfl, hr0, hm0, hw0, hc0⟩ := ReadsInt.ofRowC w0
  obtain ⟨l1, rfl, hr1, hm1, hw1, hc1⟩ := ReadsInt.ofRowC w1
  obtain ⟨k, h⟩ := P l0 l1 hm0 y0 hw0 hm1 y1 hw1
  refine (laws_FnBalancedRanks.calls k _ _ l0 _ _ l1 true w (Kd.C_of_reads (d := (0 : Int)) (h1 := fun _ => rfl) hr0) hc0 (Kd.C_of_reads (d := (0 : Int)) (h1 := fun _ => rfl) hr1) hc1 h).mono ?_
  rintro e w' ⟨rfl, hd⟩
  exact ⟨rfl, hd⟩

end Go.Proofs.Ytmcmglclgdgdnaa.HFnBalancedRanks
