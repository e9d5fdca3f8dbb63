/- Written by this session's program hprint.py out of the loaded functions: what each function computes, and the proof that the machine's call does just that. -/
import Derived.Test.YtaaoeaojimjikaaHFnLyndonFactorsDoNotRisex0
import Derived.Test.YtaaoeaojimjikaaHFnLyndonFactorsDoNotRisex1
import Derived.Test.YtaaoeaojimjikaaHFnLyndonFactorsDoNotRisex4
import Derived.Test.YtaaoeaojimjikaaHFnLyndonFactorsDoNotRisex6
namespace Go.Proofs.Ytaaoeaojimjikaa.HFnLyndonFactorsDoNotRise
open Go.RowKit Go.Proofs.YtaaoeaojimjikaaW.PrintWords Go.Proofs.YtaaoeaojimjikaaW.PrintLast Go.Proofs.YtaaoeaojimjikaaW.PrintMore
attribute [local go_sem] max2_int min2_int max_two min_two max_three min_three max_four min_four   -- for this text's walks alone
set_option linter.unusedVariables false
set_option linter.unusedSimpArgs false

/-! ### laws_FnLyndonFactorsDoNotRise: function 3 -/
mutual
def laws_FnLyndonFactorsDoNotRise.j0 : Nat → List Int → List (List Int) → Bool → Bool → Option (Bool)
  | 0, _, _, _, _ => none
  | k + 1, x5, x6, x9, x42 => if x42 = true then (some false) else (if x9 = true then (laws_FnLyndonFactorsDoNotRise.l0 k x5 x6 ([] : List Int) x6 (x6.length : Int) 0) else (some true))
def laws_FnLyndonFactorsDoNotRise.l0 : Nat → List Int → List (List Int) → List Int → List (List Int) → Int → Int → Option (Bool)
  | 0, _, _, _, _, _, _ => none
  | k + 1, x5, x6, x10, x45, x46, x47 => if x47 < x46 then (if 0 ≤ x47 then (if x47 < (x45.length : Int) then ((impl_IsLyndon.f k (rd_L2 x45 x47)).bind fun bt310 => (if bt310.2 = true then (if bt310.1 = true then (if x47 > 0 then (if 0 ≤ (wrap64 (x47 - 1)) then (if (wrap64 (x47 - 1)) < (x6.length : Int) then ((laws_tLess.f k (rd_L2 x6 (wrap64 (x47 - 1))) (rd_L2 x45 x47)).bind fun t313 => (if t313 = true then (some false) else (if x10.length + (rd_L2 x45 x47).length < 17592186044416 then (laws_FnLyndonFactorsDoNotRise.l0 k x5 x6 (x10 ++ (rd_L2 x45 x47)) x45 x46 (wrap64 (x47 + 1))) else (none)))) else (none)) else (none)) else (if x10.length + (rd_L2 x45 x47).length < 17592186044416 then (laws_FnLyndonFactorsDoNotRise.l0 k x5 x6 (x10 ++ (rd_L2 x45 x47)) x45 x46 (wrap64 (x47 + 1))) else (none))) else (some false)) else (some false))) else (none)) else (none)) else ((impl_IsLyndon.f k x5).bind fun bt320 => (if 0 ≤ (wrap64 ((x6.length : Int) - 1)) then (if (wrap64 ((x6.length : Int) - 1)) < (x6.length : Int) then (laws_FnLyndonFactorsDoNotRise.l1 k x5 x6 x10 bt320.1 bt320.2 (rd_L2 x6 (wrap64 ((x6.length : Int) - 1))) 1) else (none)) else (none)))
def laws_FnLyndonFactorsDoNotRise.l1 : Nat → List Int → List (List Int) → List Int → Bool → Bool → List Int → Int → Option (Bool)
  | 0, _, _, _, _, _, _, _ => none
  | k + 1, x5, x6, x10, x15, x16, x17, x18 => if x18 < (x5.length : Int) then (if 0 ≤ x18 then (if x18 ≤ (x5.length : Int) then ((laws_tLess.f k (x5.drop (x18 : Int).toNat) x17).bind fun t327 => (if t327 = true then (some false) else (laws_FnLyndonFactorsDoNotRise.l1 k x5 x6 x10 x15 x16 x17 (wrap64 (x18 + 1))))) else (none)) else (none)) else (if x16 = true then ((laws_tSame.f k x10 x5).bind fun t328 => (if t328 = true then (some (x15 == ((x6.length : Int) == 1))) else (some false))) else (some false))
end
def laws_FnLyndonFactorsDoNotRise.f (k : Nat) (l0 : List Int) (l1 : List Int) : Option (Bool) := (laws_big.f l0 l1).bind fun t296 => (if t296 = true then (some true) else ((spec_DrawLyndonFactors.f k l0).bind fun t297 => ((impl_LyndonFactors.f k t297).bind fun bt300 => ((spec_LyndonFactors.f k t297).bind fun bt304 => (if (bt300.2 != bt304.2) = true then (laws_FnLyndonFactorsDoNotRise.j0 k t297 bt300.1 bt304.2 true) else ((laws_tSameRows.f k bt300.1 bt304.1).bind fun t308 => (laws_FnLyndonFactorsDoNotRise.j0 k t297 bt300.1 bt304.2 (!t308))))))))
theorem laws_FnLyndonFactorsDoNotRise.mono_l : ∀ k, (∀ y0 y1 y2 y3, LeO (laws_FnLyndonFactorsDoNotRise.j0 k y0 y1 y2 y3) (laws_FnLyndonFactorsDoNotRise.j0 (k + 1) y0 y1 y2 y3)) ∧ (∀ y0 y1 y2 y3 y4 y5, LeO (laws_FnLyndonFactorsDoNotRise.l0 k y0 y1 y2 y3 y4 y5) (laws_FnLyndonFactorsDoNotRise.l0 (k + 1) y0 y1 y2 y3 y4 y5)) ∧ (∀ y0 y1 y2 y3 y4 y5 y6, LeO (laws_FnLyndonFactorsDoNotRise.l1 k y0 y1 y2 y3 y4 y5 y6) (laws_FnLyndonFactorsDoNotRise.l1 (k + 1) y0 y1 y2 y3 y4 y5 y6))
  | 0 => ⟨fun _ _ _ _ r h => by simp [laws_FnLyndonFactorsDoNotRise.j0] at h, fun _ _ _ _ _ _ r h => by simp [laws_FnLyndonFactorsDoNotRise.l0] at h, fun _ _ _ _ _ _ _ r h => by simp [laws_FnLyndonFactorsDoNotRise.l1] at h⟩
  | k + 1 => by
    obtain ⟨ih0, ih1, ih2⟩ := laws_FnLyndonFactorsDoNotRise.mono_l k
    refine ⟨?_, ?_, ?_⟩
    · intro y0 y1 y2 y3
      unfold laws_FnLyndonFactorsDoNotRise.j0
      repeat' first
      | (with_reducible exact ih0 _ _ _ _)
      | (with_reducible exact ih1 _ _ _ _ _ _)
      | (with_reducible exact ih2 _ _ _ _ _ _ _)
      | (with_reducible exact impl_IsLyndon.mono _ _)
      | (with_reducible exact impl_LyndonFactors.mono _ _)
      | (with_reducible exact laws_tLess.mono _ _ _)
      | (with_reducible exact laws_tSame.mono _ _ _)
      | (with_reducible exact laws_tSameRows.mono _ _ _)
      | (with_reducible exact spec_DrawLyndonFactors.mono _ _)
      | (with_reducible exact spec_LyndonFactors.mono _ _)
      | (with_reducible exact LeO.refl _)
      | (with_reducible exact LeO.none _)
      | (with_reducible refine LeO.ite ?_ ?_)
      | (with_reducible refine LeO.bind ?_ (fun _ => ?_))
      | exact ih0 _ _ _ _
      | exact ih1 _ _ _ _ _ _
      | exact ih2 _ _ _ _ _ _ _
      | exact impl_IsLyndon.mono _ _
      | exact impl_LyndonFactors.mono _ _
      | exact laws_tLess.mono _ _ _
      | exact laws_tSame.mono _ _ _
      | exact laws_tSameRows.mono _ _ _
      | exact spec_DrawLyndonFactors.mono _ _
      | exact spec_LyndonFactors.mono _ _
      | exact LeO.none _
      | refine LeO.ite ?_ ?_
      | refine LeO.bind ?_ (fun _ => ?_)
    · intro y0 y1 y2 y3 y4 y5
      unfold laws_FnLyndonFactorsDoNotRise.l0
      repeat' first
      | (with_reducible exact ih0 _ _ _ _)
      | (with_reducible exact ih1 _ _ _ _ _ _)
      | (with_reducible exact ih2 _ _ _ _ _ _ _)
      | (with_reducible exact impl_IsLyndon.mono _ _)
      | (with_reducible exact impl_LyndonFactors.mono _ _)
      | (with_reducible exact laws_tLess.mono _ _ _)
      | (with_reducible exact laws_tSame.mono _ _ _)
      | (with_reducible exact laws_tSameRows.mono _ _ _)
      | (with_reducible exact spec_DrawLyndonFactors.mono _ _)
      | (with_reducible exact spec_LyndonFactors.mono _ _)
      | (with_reducible exact LeO.refl _)
      | (with_reducible exact LeO.none _)
      | (with_reducible refine LeO.ite ?_ ?_)
      | (with_reducible refine LeO.bind ?_ (fun _ => ?_))
      | exact ih0 _ _ _ _
      | exact ih1 _ _ _ _ _ _
      | exact ih2 _ _ _ _ _ _ _
      | exact impl_IsLyndon.mono _ _
      | exact impl_LyndonFactors.mono _ _
      | exact laws_tLess.mono _ _ _
      | exact laws_tSame.mono _ _ _
      | exact laws_tSameRows.mono _ _ _
      | exact spec_DrawLyndonFactors.mono _ _
      | exact spec_LyndonFactors.mono _ _
      | exact LeO.none _
      | refine LeO.ite ?_ ?_
      | refine LeO.bind ?_ (fun _ => ?_)
    · intro y0 y1 y2 y3 y4 y5 y6
      unfold laws_FnLyndonFactorsDoNotRise.l1
      repeat' first
      | (with_reducible exact ih0 _ _ _ _)
      | (with_reducible exact ih1 _ _ _ _ _ _)
      | (with_reducible exact ih2 _ _ _ _ _ _ _)
      | (with_reducible exact impl_IsLyndon.mono _ _)
      | (with_reducible exact impl_LyndonFactors.mono _ _)
      | (with_reducible exact laws_tLess.mono _ _ _)
      | (with_reducible exact laws_tSame.mono _ _ _)
      | (with_reducible exact laws_tSameRows.mono _ _ _)
      | (with_reducible exact spec_DrawLyndonFactors.mono _ _)
      | (with_reducible exact spec_LyndonFactors.mono _ _)
      | (with_reducible exact LeO.refl _)
      | (with_reducible exact LeO.none _)
      | (with_reducible refine LeO.ite ?_ ?_)
      | (with_reducible refine LeO.bind ?_ (fun _ => ?_))
      | exact ih0 _ _ _ _
      | exact ih1 _ _ _ _ _ _
      | exact ih2 _ _ _ _ _ _ _
      | exact impl_IsLyndon.mono _ _
      | exact impl_LyndonFactors.mono _ _
      | exact laws_tLess.mono _ _ _
      | exact laws_tSame.mono _ _ _
      | exact laws_tSameRows.mono _ _ _
      | exact spec_DrawLyndonFactors.mono _ _
      | exact spec_LyndonFactors.mono _ _
      | exact LeO.none _
      | refine LeO.ite ?_ ?_
      | refine LeO.bind ?_ (fun _ => ?_)
theorem laws_FnLyndonFactorsDoNotRise.mono : ∀ a0 a1 k, LeO (laws_FnLyndonFactorsDoNotRise.f k a0 a1) (laws_FnLyndonFactorsDoNotRise.f (k + 1) a0 a1) := by
  intro a0 a1 k
  obtain ⟨ih0, ih1, ih2⟩ := laws_FnLyndonFactorsDoNotRise.mono_l k
  unfold laws_FnLyndonFactorsDoNotRise.f
  repeat' first
      | (with_reducible exact ih0 _ _ _ _)
      | (with_reducible exact ih1 _ _ _ _ _ _)
      | (with_reducible exact ih2 _ _ _ _ _ _ _)
      | (with_reducible exact impl_IsLyndon.mono _ _)
      | (with_reducible exact impl_LyndonFactors.mono _ _)
      | (with_reducible exact laws_tLess.mono _ _ _)
      | (with_reducible exact laws_tSame.mono _ _ _)
      | (with_reducible exact laws_tSameRows.mono _ _ _)
      | (with_reducible exact spec_DrawLyndonFactors.mono _ _)
      | (with_reducible exact spec_LyndonFactors.mono _ _)
      | (with_reducible exact LeO.refl _)
      | (with_reducible exact LeO.none _)
      | (with_reducible refine LeO.ite ?_ ?_)
      | (with_reducible refine LeO.bind ?_ (fun _ => ?_))
      | exact ih0 _ _ _ _
      | exact ih1 _ _ _ _ _ _
      | exact ih2 _ _ _ _ _ _ _
      | exact impl_IsLyndon.mono _ _
      | exact impl_LyndonFactors.mono _ _
      | exact laws_tLess.mono _ _ _
      | exact laws_tSame.mono _ _ _
      | exact laws_tSameRows.mono _ _ _
      | exact spec_DrawLyndonFactors.mono _ _
      | exact spec_LyndonFactors.mono _ _
      | exact LeO.none _
      | refine LeO.ite ?_ ?_
      | refine LeO.bind ?_ (fun _ => ?_)
set_option maxHeartbeats 8000000 in
set_option maxRecDepth 100000 in
theorem laws_FnLyndonFactorsDoNotRise.calls (k : Nat) (A0 : Option Addr) (c0 : Nat) (l0 : List Int) (A1 : Option Addr) (c1 : Nat) (l1 : List Int) (r : Bool) (w : World) (hr0 : Kd.C (Kd.int .u8) w A0 l0.length l0) (hc0 : l0.length ≤ c0) (hr1 : Kd.C (Kd.int .u8) w A1 l1.length l1) (hc1 : l1.length ≤ c1) (h : laws_FnLyndonFactorsDoNotRise.f k l0 l1 = some r) :
    Calls Try.prog 3 #[.slice A0 l0.length c0, .slice A1 l1.length c1] w fun e w' => e = .returned (.bool r) ∧ Below w.heap.size w w' := by
  have HR0 := Aside0.mk hr0
  have HC0 := Aside0.mk hc0
  clear hr0 hc0
  have HR1 := Aside0.mk hr1
  have HC1 := Aside0.mk hc1
  clear hr1 hc1
  have HB := Aside0.mk (Below.refl w.heap.size w)
  have H : ((laws_big.f l0 l1).bind fun t296 => (if t296 = true then (some true) else ((spec_DrawLyndonFactors.f k l0).bind fun t297 => ((impl_LyndonFactors.f k t297).bind fun bt300 => ((spec_LyndonFactors.f k t297).bind fun bt304 => (if (bt300.2 != bt304.2) = true then (laws_FnLyndonFactorsDoNotRise.j0 k t297 bt300.1 bt304.2 true) else ((laws_tSameRows.f k bt300.1 bt304.1).bind fun t308 => (laws_FnLyndonFactorsDoNotRise.j0 k t297 bt300.1 bt304.2 (!t308))))))))) = some r := h
  clear h
  replace H := Option.bind_eq_some_iff.mp H
  obtain ⟨t296, A30, H⟩ := H
  replace H : (if t296 = true then (some true) else ((spec_DrawLyndonFactors.f k l0).bind fun t297 => ((impl_LyndonFactors.f k t297).bind fun bt300 => ((spec_LyndonFactors.f k t297).bind fun bt304 => (if (bt300.2 != bt304.2) = true then (laws_FnLyndonFactorsDoNotRise.j0 k t297 bt300.1 bt304.2 true) else ((laws_tSameRows.f k bt300.1 bt304.1).bind fun t308 => (laws_FnLyndonFactorsDoNotRise.j0 k t297 bt300.1 bt304.2 (!t308)))))))) = some r := H
  have A3 := Aside0.mk A30
  clear A30
  by_cases c4 : t296 = true
  · as_aux_lemma =>
      subst c4
      have H1 : (some true) = some r := by rw [if_pos rfl] at H; exact H
      clear H
      have H := H1
      clear H1
      obtain rfl := Option.some.inj H
      go_enter Try.func3, Try.ntmps3
      go_wp2_with (first | ((with_reducible refine gate_callee (f := 15) rfl ?_); refine goesL_ (some 21) rfl rfl Try.func15 (by kernel_rfl) rfl #[.slice A0 l0.length c0, .slice A1 l1.length c1] rfl (by (try simp only [List.map_toArray, List.map_cons, List.map_nil]); first | done | rfl | (simp only [List.length_drop, List.length_take]; rfl) | ((try simp only [KY51.out]); (try simp only [KY52.out]); first | done | rfl)) ?_; (with_reducible refine (laws_big.calls _ _ l0 _ _ l1 true _ ?side1 ?side2 ?side3 ?side4 A3.out).mono ?_); (case side1 => repeat (first | exact HR0.out | (with_reducible refine Kd.C_alloc ?_ _) | (with_reducible refine Kd.C_drewN ?_ _) | (with_reducible refine Kd.C_drew ?_))); (case side2 => exact HC0.out); (case side3 => repeat (first | exact HR1.out | (with_reducible refine Kd.C_alloc ?_ _) | (with_reducible refine Kd.C_drewN ?_ _) | (with_reducible refine Kd.C_drew ?_))); (case side4 => exact HC1.out); rintro e w' ⟨rfl, ⟨nd, rfl⟩⟩; refine ⟨_, rfl, ?_⟩))
      go_ret
      exact ⟨by first | rfl | (simp [errW_none, errW_some] <;> rfl) | (simp [*, errW_none, errW_some] <;> rfl), by repeat (first | (with_reducible first | exact HB.out | apply below_alloc | apply pw_below_drewN | apply below_drew1) | exact HB.out)⟩
  · replace c4 := Bool.eq_false_iff.mpr c4
    subst c4
    have H1 : ((spec_DrawLyndonFactors.f k l0).bind fun t297 => ((impl_LyndonFactors.f k t297).bind fun bt300 => ((spec_LyndonFactors.f k t297).bind fun bt304 => (if (bt300.2 != bt304.2) = true then (laws_FnLyndonFactorsDoNotRise.j0 k t297 bt300.1 bt304.2 true) else ((laws_tSameRows.f k bt300.1 bt304.1).bind fun t308 => (laws_FnLyndonFactorsDoNotRise.j0 k t297 bt300.1 bt304.2 (!t308))))))) = some r := by rw [if_neg (show ¬ (false = true) by decide)] at H; exact H
    clear H
    have H := H1
    clear H1
    replace H := Option.bind_eq_some_iff.mp H
    obtain ⟨t297, A50, H⟩ := H
    replace H : ((impl_LyndonFactors.f k t297).bind fun bt300 => ((spec_LyndonFactors.f k t297).bind fun bt304 => (if (bt300.2 != bt304.2) = true then (laws_FnLyndonFactorsDoNotRise.j0 k t297 bt300.1 bt304.2 true) else ((laws_tSameRows.f k bt300.1 bt304.1).bind fun t308 => (laws_FnLyndonFactorsDoNotRise.j0 k t297 bt300.1 bt304.2 (!t308)))))) = some r := H
    have A5 := Aside0.mk A50
    clear A50
    replace H := Option.bind_eq_some_iff.mp H
    obtain ⟨⟨t300, t303⟩, A60, H⟩ := H
    replace H : ((spec_LyndonFactors.f k t297).bind fun bt304 => (if (t303 != bt304.2) = true then (laws_FnLyndonFactorsDoNotRise.j0 k t297 t300 bt304.2 true) else ((laws_tSameRows.f k t300 bt304.1).bind fun t308 => (laws_FnLyndonFactorsDoNotRise.j0 k t297 t300 bt304.2 (!t308))))) = some r := H
    have A6 := Aside0.mk A60
    clear A60
    replace H := Option.bind_eq_some_iff.mp H
    obtain ⟨⟨t304, t305⟩, A70, H⟩ := H
    replace H : (if (t303 != t305) = true then (laws_FnLyndonFactorsDoNotRise.j0 k t297 t300 t305 true) else ((laws_tSameRows.f k t300 t304).bind fun t308 => (laws_FnLyndonFactorsDoNotRise.j0 k t297 t300 t305 (!t308)))) = some r := H
    have A7 := Aside0.mk A70
    clear A70
    have HC8 := Aside0.mk H
    clear H
    go_enter Try.func3, Try.ntmps3
    go_upto_region 6 with (first | ((with_reducible refine gate_callee (f := 15) rfl ?_); refine goesL_ (some 21) rfl rfl Try.func15 (by kernel_rfl) rfl #[.slice A0 l0.length c0, .slice A1 l1.length c1] rfl (by (try simp only [List.map_toArray, List.map_cons, List.map_nil]); first | done | rfl | (simp only [List.length_drop, List.length_take]; rfl) | ((try simp only [KY51.out]); (try simp only [KY52.out]); first | done | rfl)) ?_; (with_reducible refine (laws_big.calls _ _ l0 _ _ l1 false _ ?side1 ?side2 ?side3 ?side4 A3.out).mono ?_); (case side1 => repeat (first | exact HR0.out | (with_reducible refine Kd.C_alloc ?_ _) | (with_reducible refine Kd.C_drewN ?_ _) | (with_reducible refine Kd.C_drew ?_))); (case side2 => exact HC0.out); (case side3 => repeat (first | exact HR1.out | (with_reducible refine Kd.C_alloc ?_ _) | (with_reducible refine Kd.C_drewN ?_ _) | (with_reducible refine Kd.C_drew ?_))); (case side4 => exact HC1.out); rintro e w' ⟨rfl, ⟨nd, rfl⟩⟩; refine ⟨_, rfl, ?_⟩) | ((with_reducible refine gate_callee (f := 16) rfl ?_); refine goesL_ (some 23) rfl rfl Try.func16 (by kernel_rfl) rfl #[.slice A0 l0.length c0] rfl (by (try simp only [List.map_toArray, List.map_cons, List.map_nil]); first | done | rfl | (simp only [List.length_drop, List.length_take]; rfl) | ((try simp only [KY51.out]); (try simp only [KY52.out]); first | done | rfl)) ?_; (with_reducible refine (spec_DrawLyndonFactors.calls k _ _ l0 t297 _ ?side1 ?side2 A5.out).mono ?_); (case side1 => repeat (first | exact HR0.out | (with_reducible refine Kd.C_alloc ?_ _) | (with_reducible refine Kd.C_drewN ?_ _) | (with_reducible refine Kd.C_drew ?_))); (case side2 => exact HC0.out); rintro e w9 ⟨v298, rfl, ho0, hb⟩; refine ⟨_, rfl, ?_⟩; have n0_ := Aside0.mk (Kd.R_lower ho0 (below_size (by repeat (first | (with_reducible first | exact HB.out | apply below_alloc | apply pw_below_drewN | apply below_drew1) | exact HB.out)))); have n1_ := Aside0.mk (below_step (by repeat (first | (with_reducible first | exact HB.out | apply below_alloc | apply pw_below_drewN | apply below_drew1) | exact HB.out)) hb); clear HB; have HO299 := n0_; have HB := n1_; clear n0_ n1_; (try clear hb); (try clear hb2); (try clear hk); (try clear hi); (try clear ho0); obtain ⟨Ao10, co10, eo10⟩ := Kd.R_slice HO299.out; subst eo10) | ((with_reducible refine gate_callee (f := 17) rfl ?_); refine goesL_ (some 26) rfl rfl Try.func17 (by kernel_rfl) rfl #[.slice Ao10 t297.length co10] rfl (by (try simp only [List.map_toArray, List.map_cons, List.map_nil]); first | done | rfl | (simp only [List.length_drop, List.length_take]; rfl) | ((try simp only [KY51.out]); (try simp only [KY52.out]); first | done | rfl)) ?_; (with_reducible refine (impl_LyndonFactors.calls k (fun k_ => some k_ = (.slice Ao10 t297.length co10 : Value).ownBlock) _ _ t297 t300 t303 _ ?side1 A6.out).mono ?_); (case side1 => exact Kd.R_V (Kd.R_tight rfl (HO299.out))); rintro e w11 ⟨v301, rfl, ho0, hb⟩; refine ⟨_, rfl, ?_⟩; have n0_ := Aside0.mk (Kd.R_below (by (with_reducible repeat (first | apply Kd.R_alloc | apply Kd.R_drewN | apply Kd.R_drew)); (first | exact HO299.out | (have hz_ := HO299.out; (try simp only [ob_] at hz_); (try simp only [ob_]); exact hz_))) hb); have n1_ := Aside0.mk (Kd.S_lower (Kd.S_new' (Kd.S_mono (ok' := fun k_ => True) ho0 (fun _ hk_ => trivial)) (Kd.R_lt (by (with_reducible repeat (first | apply Kd.R_alloc | apply Kd.R_drewN | apply Kd.R_drew)); (first | exact HO299.out | (have hz_ := HO299.out; (try simp only [ob_] at hz_); (try simp only [ob_]); exact hz_))))) (below_size (by repeat (first | (with_reducible first | exact HB.out | apply below_alloc | apply pw_below_drewN | apply below_drew1) | exact HB.out)))); have n2_ := Aside0.mk (below_step (by repeat (first | (with_reducible first | exact HB.out | apply below_alloc | apply pw_below_drewN | apply below_drew1) | exact HB.out)) hb); clear HO299; clear HB; have HO299 := n0_; have HO302 := n1_; have HB := n2_; clear n0_ n1_ n2_; (try clear hb); (try clear hb2); (try clear hk); (try clear hi); (try clear ho0)) | ((with_reducible refine gate_callee (f := 18) rfl ?_); refine goesL_ (some 31) rfl rfl Try.func18 (by kernel_rfl) rfl #[.slice Ao10 t297.length co10] rfl (by (try simp only [List.map_toArray, List.map_cons, List.map_nil]); first | done | rfl | (simp only [List.length_drop, List.length_take]; rfl) | ((try simp only [KY51.out]); (try simp only [KY52.out]); first | done | rfl)) ?_; (with_reducible refine (spec_LyndonFactors.calls k _ _ t297 t304 t305 _ ?side1 ?side2 A7.out).mono ?_); (case side1 => repeat (first | exact (Kd.R_reads' HO299.out).2.2 | (with_reducible refine Kd.C_alloc ?_ _) | (with_reducible refine Kd.C_drewN ?_ _) | (with_reducible refine Kd.C_drew ?_))); (case side2 => exact (Kd.R_reads' HO299.out).2.1); rintro e w12 ⟨v306, rfl, ho0, hb⟩; refine ⟨_, rfl, ?_⟩; have n0_ := Aside0.mk (Kd.R_below (by (with_reducible repeat (first | apply Kd.R_alloc | apply Kd.R_drewN | apply Kd.R_drew)); (first | exact HO299.out | (have hz_ := HO299.out; (try simp only [ob_] at hz_); (try simp only [ob_]); exact hz_))) hb); have n1_ := Aside0.mk (Kd.S_elder' (by (with_reducible repeat (first | apply Kd.S_alloc | apply Kd.S_drewN | apply Kd.S_drew)); (first | exact HO302.out | (have hz_ := HO302.out; (try simp only [ob_] at hz_); (try simp only [ob_]); exact hz_))) (Kd.S_base ho0) hb); have n2_ := Aside0.mk (Kd.S_lower (Kd.S_new' (Kd.S_new' ho0 (Kd.R_lt (by (with_reducible repeat (first | apply Kd.R_alloc | apply Kd.R_drewN | apply Kd.R_drew)); (first | exact HO299.out | (have hz_ := HO299.out; (try simp only [ob_] at hz_); (try simp only [ob_]); exact hz_))))) (Kd.S_lt (by (with_reducible repeat (first | apply Kd.S_alloc | apply Kd.S_drewN | apply Kd.S_drew)); (first | exact HO302.out | (have hz_ := HO302.out; (try simp only [ob_] at hz_); (try simp only [ob_]); exact hz_))))) (below_size (by repeat (first | (with_reducible first | exact HB.out | apply below_alloc | apply pw_below_drewN | apply below_drew1) | exact HB.out)))); have n3_ := Aside0.mk (below_step (by repeat (first | (with_reducible first | exact HB.out | apply below_alloc | apply pw_below_drewN | apply below_drew1) | exact HB.out)) hb); clear HO299; clear HO302; clear HB; have HO299 := n0_; have HO302 := n1_; have HO307 := n2_; have HB := n3_; clear n0_ n1_ n2_ n3_; (try clear hb); (try clear hb2); (try clear hk); (try clear hi); (try clear ho0)))
    (try simp only [Act.put, List.setIfInBounds_toArray, List.set_cons_zero, List.set_cons_succ])
    go_cut [42] (fun v42 wc => ∃ (kq : Nat) (x42_7 : Bool), v42 = .bool x42_7 ∧ Aside0 (laws_FnLyndonFactorsDoNotRise.j0 kq t297 t300 t305 x42_7 = some r) ∧ Aside0 (kq ≤ k) ∧ Aside0 (Kd.R (Kd.int .i64) 3 wc w.heap.size (fun _ => True) (.slice Ao10 t297.length co10) t297) ∧ Aside0 (Kd.S (Kd.slice 3 (Kd.int .i64)) 24 wc w.heap.size (fun k_ => some k_ ≠ ((.slice Ao10 t297.length co10) : Value).ownBlock) v301 t300) ∧ Aside0 (Below w.heap.size w wc))
    case first =>
      have H := HC8.out
      clear HC8
      by_cases c13 : (t303 != t305) = true
      · as_aux_lemma =>
          rw [if_pos c13] at H
          have c13b0 : (t303 != t305) = true := c13
          (try (have c13b1 : decide (t303 = t305) = false := by simpa using c13))
          (try (have c13b2 : (t303 == t305) = false := by simpa using c13))
          (try (have c13b3 : ¬ (t303 = t305) := by simpa using c13))
          clear c13
          (first | rw [c13b0] | (simp only [i64_w, i32_w]; rw [c13b0]) | skip)
          have H' := Aside0.mk H
          clear H
          go_wp2
          go_meet
          case rel => exact ⟨_, (true), (by first | rfl | (simp; done) | (simp [*]; done)), H', ⟨by first | omega | exact Nat.le_refl _⟩, ⟨by (with_reducible repeat (first | apply Kd.R_alloc | apply Kd.R_drewN | apply Kd.R_drew)); (first | exact HO299.out | (have hz_ := HO299.out; (try simp only [ob_] at hz_); (try simp only [ob_]); exact hz_))⟩, ⟨by (with_reducible repeat (first | apply Kd.S_alloc | apply Kd.S_drewN | apply Kd.S_drew)); exact Kd.S_mono HO302.out (fun _ hk => hk.1.2)⟩, ⟨by repeat (first | (with_reducible first | exact HB.out | apply below_alloc | apply pw_below_drewN | apply below_drew1) | exact HB.out)⟩⟩
      · as_aux_lemma =>
          rw [if_neg c13] at H
          have c13b0 : (t303 != t305) = false := by simpa using c13
          (try (have c13b1 : decide (t303 = t305) = true := by simpa using c13))
          (try (have c13b2 : (t303 == t305) = true := by simpa using c13))
          clear c13
          (first | rw [c13b0] | (simp only [i64_w, i32_w]; rw [c13b0]) | skip)
          replace H := Option.bind_eq_some_iff.mp H
          obtain ⟨t308, A140, H⟩ := H
          replace H : (laws_FnLyndonFactorsDoNotRise.j0 k t297 t300 t305 (!t308)) = some r := H
          have A14 := Aside0.mk A140
          clear A140
          have H' := Aside0.mk H
          clear H
          obtain ⟨Ao15, co15, eo15⟩ := Kd.S_slice HO302.out
          subst eo15
          obtain ⟨Ao16, co16, eo16⟩ := Kd.S_slice HO307.out
          subst eo16
          go_wp2_with (first | (go_at_call 19; (with_reducible refine (laws_tSameRows.calls k _ _ t300 _ _ t304 t308 _ ?side1 ?side2 ?side3 ?side4 A14.out).mono ?_); (case side1 => repeat (first | exact (Kd.S_reads' HO302.out).2.2 | (with_reducible refine Kd.C_alloc ?_ _) | (with_reducible refine Kd.C_drewN ?_ _) | (with_reducible refine Kd.C_drew ?_))); (case side2 => exact (Kd.S_reads' HO302.out).2.1); (case side3 => repeat (first | exact (Kd.S_reads' HO307.out).2.2 | (with_reducible refine Kd.C_alloc ?_ _) | (with_reducible refine Kd.C_drewN ?_ _) | (with_reducible refine Kd.C_drew ?_))); (case side4 => exact (Kd.S_reads' HO307.out).2.1); rintro e w' ⟨rfl, ⟨nd, rfl⟩⟩))
          go_meet
          case rel => exact ⟨_, (!t308), (by first | rfl | (simp; done) | (simp [*]; done)), H', ⟨by first | omega | exact Nat.le_refl _⟩, ⟨by (with_reducible repeat (first | apply Kd.R_alloc | apply Kd.R_drewN | apply Kd.R_drew)); (first | exact HO299.out | (have hz_ := HO299.out; (try simp only [ob_] at hz_); (try simp only [ob_]); exact hz_))⟩, ⟨by (with_reducible repeat (first | apply Kd.S_alloc | apply Kd.S_drewN | apply Kd.S_drew)); exact Kd.S_mono HO302.out (fun _ hk => hk.1.2)⟩, ⟨by repeat (first | (with_reducible first | exact HB.out | apply below_alloc | apply pw_below_drewN | apply below_drew1) | exact HB.out)⟩⟩
    case rest =>
      clear HC8
      try clear c1
      try clear p2
      try clear c3
      try clear c4
      try clear c13
      try clear c13b0
      try clear c13b1
      try clear c13b2
      try clear c15
      try clear c16
      obtain ⟨kq, x42_7, rfl, HA, HJ7, HO_5, HO_6, HB⟩ := hcut
      cases kq with
      | zero => exact absurd HA.out (by simp [laws_FnLyndonFactorsDoNotRise.j0])
      | succ kj7 =>
        have H := HA.out
        clear HA
        simp only [laws_FnLyndonFactorsDoNotRise.j0] at H
        by_cases c17 : x42_7 = true
        · as_aux_lemma =>
            subst c17
            have H1 : (some false) = some r := by rw [if_pos rfl] at H; exact H
            clear H
            have H := H1
            clear H1
            obtain rfl := Option.some.inj H
            go_wp2
            go_ret
            exact ⟨by first | rfl | (simp [errW_none, errW_some] <;> rfl) | (simp [*, errW_none, errW_some] <;> rfl), by repeat (first | (with_reducible first | exact HB.out | apply below_alloc | apply pw_below_drewN | apply below_drew1) | exact HB.out)⟩
        · replace c17 := Bool.eq_false_iff.mpr c17
          subst c17
          have H1 : (if t305 = true then (laws_FnLyndonFactorsDoNotRise.l0 kj7 t297 t300 ([] : List Int) t300 (t300.length : Int) 0) else (some true)) = some r := by rw [if_neg (show ¬ (false = true) by decide)] at H; exact H
          clear H
          have H := H1
          clear H1
          by_cases c18 : t305 = true
          · subst c18
            have H1 : (laws_FnLyndonFactorsDoNotRise.l0 kj7 t297 t300 ([] : List Int) t300 (t300.length : Int) 0) = some r := by rw [if_pos rfl] at H; exact H
            clear H
            have H := H1
            clear H1
            have H' := Aside0.mk H
            clear H
            obtain ⟨Ao19, co19, eo19⟩ := Kd.S_slice HO_6.out
            subst eo19
            go_wp2
            go_loopg [10, 47] kj7 (fun kq v10 v47 w' => ∃ (x10_2 : List Int) (x47_2 : Int), v47 = .int .i64 x47_2 ∧ Aside0 (laws_FnLyndonFactorsDoNotRise.l0 kq t297 t300 x10_2 t300 (t300.length : Int) x47_2 = some r) ∧ Aside0 (kq ≤ kj7) ∧ Aside0 (Kd.R (Kd.int .i64) 3 w' w.heap.size (fun k_ => some k_ ≠ (v10 : Value).ownBlock) (.slice Ao10 t297.length co10) t297) ∧ Aside0 (Kd.S (Kd.slice 3 (Kd.int .i64)) 24 w' w.heap.size (fun k_ => some k_ ≠ ((.slice Ao10 t297.length co10) : Value).ownBlock ∧ some k_ ≠ (v10 : Value).ownBlock) (.slice Ao19 t300.length co19) t300) ∧ Aside0 (Kd.R (Kd.int .i64) 3 w' w.heap.size (fun k_ => some k_ ≠ ((.slice Ao10 t297.length co10) : Value).ownBlock) v10 x10_2) ∧ Aside0 (Kd.S (Kd.slice 3 (Kd.int .i64)) 24 w' w.heap.size (fun k_ => some k_ ≠ ((.slice Ao10 t297.length co10) : Value).ownBlock ∧ some k_ ≠ (v10 : Value).ownBlock) (.slice Ao19 t300.length co19) t300) ∧ Aside0 (Below w.heap.size w w'))
            case atStart => exact ⟨(([] : List Int)), (0), (by first | rfl | (simp; done) | (simp [*]; done)), H', ⟨Nat.le_refl _⟩, ⟨by (with_reducible repeat (first | apply Kd.R_alloc | apply Kd.R_drewN | apply Kd.R_drew)); exact Kd.R_mono HO_5.out (fun _ hk => (by simp [Value.ownBlock]))⟩, ⟨by (with_reducible repeat (first | apply Kd.S_alloc | apply Kd.S_drewN | apply Kd.S_drew)); exact Kd.S_mono HO_6.out (fun _ hk => ⟨hk, (by simp [Value.ownBlock])⟩)⟩, ⟨by first | exact Kd.R_nil _ _ _ _ _ | exact Kd.N_nil _ _ _ _ _ | exact Kd.V_nil _ _ _ _ _ | exact Kd.Q_nil _ _ _ _ _ | exact Kd.S_nil _ _ _ _ _⟩, ⟨by (with_reducible repeat (first | apply Kd.S_alloc | apply Kd.S_drewN | apply Kd.S_drew)); exact Kd.S_mono HO_6.out (fun _ hk => ⟨hk, (by simp [Value.ownBlock])⟩)⟩, ⟨by repeat (first | (with_reducible first | exact HB.out | apply below_alloc | apply pw_below_drewN | apply below_drew1) | exact HB.out)⟩⟩
            case round =>
              clear H'
              try clear c1
              try clear p2
              try clear c3
              try clear c4
              try clear c13
              try clear c13b0
              try clear c13b1
              try clear c13b2
              try clear c15
              try clear c16
              try clear c17
              try clear c18
              try clear p2
              obtain ⟨x10_2, x47_2, rfl, HA, HK2, HO_5, HO_6, HO_10, HO_45, HB⟩ := hrel
              cases gk with
              | zero => exact absurd HA.out (by simp [laws_FnLyndonFactorsDoNotRise.l0])
              | succ k2 =>
                have H := HA.out
                clear HA
                simp only [laws_FnLyndonFactorsDoNotRise.l0] at H
                by_cases c20 : x47_2 < (t300.length : Int)
                · rw [if_pos c20] at H
                  have c20b0 : decide (x47_2 < (t300.length : Int)) = true := decide_eq_true c20
                  clear c20
                  by_cases c21 : 0 ≤ x47_2
                  · rw [if_pos c21] at H
                    have c21b0 : decide (0 ≤ x47_2) = true := decide_eq_true c21
                    clear c21
                    by_cases c22 : x47_2 < (t300.length : Int)
                    · rw [if_pos c22] at H
                      have c22b0 : decide (x47_2 < (t300.length : Int)) = true := decide_eq_true c22
                      clear c22
                      replace H := Option.bind_eq_some_iff.mp H
                      obtain ⟨⟨t310, t311⟩, A230, H⟩ := H
                      replace H : (if t311 = true then (if t310 = true then (if x47_2 > 0 then (if 0 ≤ (wrap64 (x47_2 - 1)) then (if (wrap64 (x47_2 - 1)) < (t300.length : Int) then ((laws_tLess.f k2 (rd_L2 t300 (wrap64 (x47_2 - 1))) (rd_L2 t300 x47_2)).bind fun t313 => (if t313 = true then (some false) else (if x10_2.length + (rd_L2 t300 x47_2).length < 17592186044416 then (laws_FnLyndonFactorsDoNotRise.l0 k2 t297 t300 (x10_2 ++ (rd_L2 t300 x47_2)) t300 (t300.length : Int) (wrap64 (x47_2 + 1))) else (none)))) else (none)) else (none)) else (if x10_2.length + (rd_L2 t300 x47_2).length < 17592186044416 then (laws_FnLyndonFactorsDoNotRise.l0 k2 t297 t300 (x10_2 ++ (rd_L2 t300 x47_2)) t300 (t300.length : Int) (wrap64 (x47_2 + 1))) else (none))) else (some false)) else (some false)) = some r := H
                      have A23 := Aside0.mk A230
                      clear A230
                      by_cases c24 : t311 = true
                      · subst c24
                        have H1 : (if t310 = true then (if x47_2 > 0 then (if 0 ≤ (wrap64 (x47_2 - 1)) then (if (wrap64 (x47_2 - 1)) < (t300.length : Int) then ((laws_tLess.f k2 (rd_L2 t300 (wrap64 (x47_2 - 1))) (rd_L2 t300 x47_2)).bind fun t313 => (if t313 = true then (some false) else (if x10_2.length + (rd_L2 t300 x47_2).length < 17592186044416 then (laws_FnLyndonFactorsDoNotRise.l0 k2 t297 t300 (x10_2 ++ (rd_L2 t300 x47_2)) t300 (t300.length : Int) (wrap64 (x47_2 + 1))) else (none)))) else (none)) else (none)) else (if x10_2.length + (rd_L2 t300 x47_2).length < 17592186044416 then (laws_FnLyndonFactorsDoNotRise.l0 k2 t297 t300 (x10_2 ++ (rd_L2 t300 x47_2)) t300 (t300.length : Int) (wrap64 (x47_2 + 1))) else (none))) else (some false)) = some r := by rw [if_pos rfl] at H; exact H
                        clear H
                        have H := H1
                        clear H1
                        by_cases c25 : t310 = true
                        · subst c25
                          have H1 : (if x47_2 > 0 then (if 0 ≤ (wrap64 (x47_2 - 1)) then (if (wrap64 (x47_2 - 1)) < (t300.length : Int) then ((laws_tLess.f k2 (rd_L2 t300 (wrap64 (x47_2 - 1))) (rd_L2 t300 x47_2)).bind fun t313 => (if t313 = true then (some false) else (if x10_2.length + (rd_L2 t300 x47_2).length < 17592186044416 then (laws_FnLyndonFactorsDoNotRise.l0 k2 t297 t300 (x10_2 ++ (rd_L2 t300 x47_2)) t300 (t300.length : Int) (wrap64 (x47_2 + 1))) else (none)))) else (none)) else (none)) else (if x10_2.length + (rd_L2 t300 x47_2).length < 17592186044416 then (laws_FnLyndonFactorsDoNotRise.l0 k2 t297 t300 (x10_2 ++ (rd_L2 t300 x47_2)) t300 (t300.length : Int) (wrap64 (x47_2 + 1))) else (none))) = some r := by rw [if_pos rfl] at H; exact H
                          clear H
                          have H := H1
                          clear H1
                          by_cases c26 : x47_2 > 0
                          · rw [if_pos c26] at H
                            have c26b0 : decide (0 < x47_2) = true := decide_eq_true c26
                            clear c26
                            obtain ⟨ji27, hji27⟩ : ∃ j_ : Int, (wrap64 (x47_2 - 1)) = j_ := ⟨_, rfl⟩
                            replace H : (if 0 ≤ (ji27) then (if (ji27) < (t300.length : Int) then ((laws_tLess.f k2 (rd_L2 t300 (ji27)) (rd_L2 t300 x47_2)).bind fun t313 => (if t313 = true then (some false) else (if x10_2.length + (rd_L2 t300 x47_2).length < 17592186044416 then (laws_FnLyndonFactorsDoNotRise.l0 k2 t297 t300 (x10_2 ++ (rd_L2 t300 x47_2)) t300 (t300.length : Int) (wrap64 (x47_2 + 1))) else (none)))) else (none)) else (none)) = some r := by first | (rw [hji27] at H; exact H) | (simp only [hji27] at H ⊢; exact H)
                            (try rw [hji27] at A23)
                            have hji27w : (IntKind.i64.wrap (x47_2 - 1)) = ji27 := (i64_w _).trans hji27
                            by_cases c28 : 0 ≤ (ji27)
                            · rw [if_pos c28] at H
                              have c28b0 : decide (0 ≤ (ji27)) = true := decide_eq_true c28
                              clear c28
                              by_cases c29 : (ji27) < (t300.length : Int)
                              · rw [if_pos c29] at H
                                have c29b0 : decide ((ji27) < (t300.length : Int)) = true := decide_eq_true c29
                                clear c29
                                replace H := Option.bind_eq_some_iff.mp H
                                obtain ⟨t313, A300, H⟩ := H
                                replace H : (if t313 = true then (some false) else (if x10_2.length + (rd_L2 t300 x47_2).length < 17592186044416 then (laws_FnLyndonFactorsDoNotRise.l0 k2 t297 t300 (x10_2 ++ (rd_L2 t300 x47_2)) t300 (t300.length : Int) (wrap64 (x47_2 + 1))) else (none))) = some r := H
                                have A30 := Aside0.mk A300
                                clear A300
                                by_cases c31 : t313 = true
                                · as_aux_lemma =>
                                    subst c31
                                    have H1 : (some false) = some r := by rw [if_pos rfl] at H; exact H
                                    clear H
                                    have H := H1
                                    clear H1
                                    obtain rfl := Option.some.inj H
                                    have p309 : 0 ≤ (x47_2 : Int) := of_decide_eq_true (by first | (with_reducible assumption) | assumption)
                                    have q309 : x47_2 < (t300.length : Int) := of_decide_eq_true (by first | (with_reducible assumption) | assumption)
                                    obtain ⟨ad309, A309_0, c309_0, e309, hx309_0, hl309_0, hi309_0⟩ := at_L2 (Kd.S_reads' HO_45.out).2.2 x47_2 p309 q309
                                    cases e309
                                    obtain ⟨ce309, hce309, hMe309, hcc309⟩ := Kd.S_get HO_45.out [] x47_2 p309 (by first | exact q309 | exact of_decide_eq_true (by first | (with_reducible assumption) | assumption) | (have e_ := (Kd.S_reads' HO_45.out).1; omega))
                                    obtain ⟨ve309_0, rfl, ge309_0⟩ := hMe309
                                    have hv309_0 := hcc309 0 _ rfl
                                    rw [Nat.add_zero, show ((Kd.slice 3 (Kd.int .i64))).sz = 1 from rfl, Nat.mul_one] at hv309_0
                                    replace hv309_0 := Option.some.inj (hv309_0.symm.trans hx309_0)
                                    rw [hv309_0] at ge309_0
                                    have HL309_0 := Aside0.mk (show Kd.R (Kd.int .i64) 3 _ _ _ _ (rd_L2 t300 x47_2) from ge309_0)
                                    clear hv309_0 ge309_0
                                    clear hcc309 hce309
                                    have HR309_0 := Aside0.mk hi309_0
                                    have HC309_0 := Aside0.mk hl309_0
                                    clear hi309_0 hl309_0
                                    replace p309 := eq_true p309
                                    replace q309 := eq_true q309
                                    go_wp2_with (first | ((with_reducible refine gate_callee (f := 20) rfl ?_); refine goesL_ (some 54) rfl rfl Try.func20 (by kernel_rfl) rfl #[.slice A309_0 (rd_L2 t300 x47_2).length c309_0] rfl (by (try simp only [List.map_toArray, List.map_cons, List.map_nil]); first | done | rfl | (simp only [List.length_drop, List.length_take]; rfl) | ((try simp only [KY51.out]); (try simp only [KY52.out]); first | done | rfl)) ?_; (with_reducible refine (impl_IsLyndon.calls k2 _ _ (rd_L2 t300 x47_2) true true _ ?side1 ?side2 A23.out).mono ?_); (case side1 => repeat (first | exact (by repeat (first | (with_reducible exact HR309_0.out) | (with_reducible refine Kd.C_alloc ?_ _) | (with_reducible refine Kd.C_drewN ?_ _) | (with_reducible refine Kd.C_drew ?_) | exact HR309_0.out)) | (with_reducible refine Kd.C_alloc ?_ _) | (with_reducible refine Kd.C_drewN ?_ _) | (with_reducible refine Kd.C_drew ?_))); (case side2 => exact HC309_0.out); rintro e w32 ⟨rfl, hb⟩; refine ⟨_, rfl, ?_⟩; have n0_ := Aside0.mk (Kd.R_below (by (with_reducible repeat (first | apply Kd.R_alloc | apply Kd.R_drewN | apply Kd.R_drew)); (first | exact HO_5.out | (have hz_ := HO_5.out; (try simp only [ob_] at hz_); (try simp only [ob_]); exact hz_))) hb); have n1_ := Aside0.mk (Kd.S_below (by (with_reducible repeat (first | apply Kd.S_alloc | apply Kd.S_drewN | apply Kd.S_drew)); (first | exact HO_6.out | (have hz_ := HO_6.out; (try simp only [ob_] at hz_); (try simp only [ob_]); exact hz_))) hb); have n2_ := Aside0.mk (Kd.R_below (by (with_reducible repeat (first | apply Kd.R_alloc | apply Kd.R_drewN | apply Kd.R_drew)); (first | exact HO_10.out | (have hz_ := HO_10.out; (try simp only [ob_] at hz_); (try simp only [ob_]); exact hz_))) hb); have n3_ := Aside0.mk (Kd.S_below (by (with_reducible repeat (first | apply Kd.S_alloc | apply Kd.S_drewN | apply Kd.S_drew)); (first | exact HO_45.out | (have hz_ := HO_45.out; (try simp only [ob_] at hz_); (try simp only [ob_]); exact hz_))) hb); have n4_ := Aside0.mk (Kd.R_below (by (with_reducible repeat (first | apply Kd.R_alloc | apply Kd.R_drewN | apply Kd.R_drew)); exact HL309_0.out) hb); have n5_ := Aside0.mk (Kd.C_below (by repeat (first | (with_reducible exact HR309_0.out) | (with_reducible refine Kd.C_alloc ?_ _) | (with_reducible refine Kd.C_drewN ?_ _) | (with_reducible refine Kd.C_drew ?_) | exact HR309_0.out)) hb); have n6_ := Aside0.mk (below_step (by repeat (first | (with_reducible first | exact HB.out | apply below_alloc | apply pw_below_drewN | apply below_drew1) | exact HB.out)) hb); clear HO_5; clear HO_6; clear HO_10; clear HO_45; clear HL309_0; clear HR309_0; clear HB; have HO_5 := n0_; have HO_6 := n1_; have HO_10 := n2_; have HO_45 := n3_; have HL309_0 := n4_; have HR309_0 := n5_; have HB := n6_; clear n0_ n1_ n2_ n3_ n4_ n5_ n6_; (try clear hb); (try clear hb2); (try clear hk); (try clear hi); have p312 : 0 ≤ ((ji27) : Int) := of_decide_eq_true (by first | (with_reducible assumption) | assumption); have q312 : (ji27) < (t300.length : Int) := of_decide_eq_true (by first | (with_reducible assumption) | assumption); obtain ⟨ad312, A312_0, c312_0, e312, hx312_0, hl312_0, hi312_0⟩ := at_L2 (Kd.S_reads' HO_6.out).2.2 (ji27) p312 q312; obtain rfl : ad309 = ad312 := (by injection e312); obtain ⟨ce312, hce312, hMe312, hcc312⟩ := Kd.S_get HO_6.out [] (ji27) p312 (by first | exact q312 | exact of_decide_eq_true (by first | (with_reducible assumption) | assumption) | (have e_ := (Kd.S_reads' HO_6.out).1; omega)); obtain ⟨ve312_0, rfl, ge312_0⟩ := hMe312; have hv312_0 := hcc312 0 _ rfl; rw [Nat.add_zero, show ((Kd.slice 3 (Kd.int .i64))).sz = 1 from rfl, Nat.mul_one] at hv312_0; replace hv312_0 := Option.some.inj (hv312_0.symm.trans hx312_0); rw [hv312_0] at ge312_0; have HL312_0 := Aside0.mk (show Kd.R (Kd.int .i64) 3 _ _ _ _ (rd_L2 t300 (ji27)) from ge312_0); clear hv312_0 ge312_0; clear hcc312 hce312; have HR312_0 := Aside0.mk hi312_0; have HC312_0 := Aside0.mk hl312_0; clear hi312_0 hl312_0; replace p312 := eq_true p312; replace q312 := eq_true q312) | (go_at_call 21; (with_reducible refine (laws_tLess.calls k2 _ _ (rd_L2 t300 (ji27)) _ _ (rd_L2 t300 x47_2) true _ ?side1 ?side2 ?side3 ?side4 A30.out).mono ?_); (case side1 => repeat (first | exact (by repeat (first | (with_reducible exact HR312_0.out) | (with_reducible refine Kd.C_alloc ?_ _) | (with_reducible refine Kd.C_drewN ?_ _) | (with_reducible refine Kd.C_drew ?_) | exact HR312_0.out)) | (with_reducible refine Kd.C_alloc ?_ _) | (with_reducible refine Kd.C_drewN ?_ _) | (with_reducible refine Kd.C_drew ?_))); (case side2 => exact HC312_0.out); (case side3 => repeat (first | exact (by repeat (first | (with_reducible exact HR309_0.out) | (with_reducible refine Kd.C_alloc ?_ _) | (with_reducible refine Kd.C_drewN ?_ _) | (with_reducible refine Kd.C_drew ?_) | exact HR309_0.out)) | (with_reducible refine Kd.C_alloc ?_ _) | (with_reducible refine Kd.C_drewN ?_ _) | (with_reducible refine Kd.C_drew ?_))); (case side4 => exact HC309_0.out); rintro e w' ⟨rfl, ⟨nd, rfl⟩⟩))
                                    go_ret
                                    exact ⟨by first | rfl | (simp [errW_none, errW_some] <;> rfl) | (simp only [← hji27]; first | rfl | (simp [errW_none, errW_some] <;> rfl)) | (simp [*, errW_none, errW_some] <;> rfl), by repeat (first | (with_reducible first | exact HB.out | apply below_alloc | apply pw_below_drewN | apply below_drew1) | exact HB.out)⟩
                                · replace c31 := Bool.eq_false_iff.mpr c31
                                  subst c31
                                  have H1 : (if x10_2.length + (rd_L2 t300 x47_2).length < 17592186044416 then (laws_FnLyndonFactorsDoNotRise.l0 k2 t297 t300 (x10_2 ++ (rd_L2 t300 x47_2)) t300 (t300.length : Int) (wrap64 (x47_2 + 1))) else (none)) = some r := by rw [if_neg (show ¬ (false = true) by decide)] at H; exact H
                                  clear H
                                  have H := H1
                                  clear H1
                                  by_cases c33 : x10_2.length + (rd_L2 t300 x47_2).length < 17592186044416
                                  · as_aux_lemma =>
                                      rw [if_pos c33] at H
                                      have LMc33 := Aside0.mk c33
                                      clear c33
                                      obtain ⟨y314, hy314⟩ : ∃ y_ : List Int, y_ = (x10_2 ++ (rd_L2 t300 x47_2)) := ⟨_, rfl⟩
                                      replace H : (laws_FnLyndonFactorsDoNotRise.l0 k2 t297 t300 y314 t300 (t300.length : Int) (wrap64 (x47_2 + 1))) = some r := by first | (rw [hy314]; with_reducible exact H) | (have H2_ := (Option.bind_some _ _).symm.trans H; rw [hy314]; with_reducible exact H2_) | (have H2_ := (Option.bind_some _ _).symm.trans H; with_reducible exact H2_) | with_reducible exact H | (rw [hy314]; exact H) | exact H
                                      have Ny314 := Aside0.mk hy314
                                      clear hy314
                                      have H' := Aside0.mk H
                                      clear H
                                      have p309 : 0 ≤ (x47_2 : Int) := of_decide_eq_true (by first | (with_reducible assumption) | assumption)
                                      have q309 : x47_2 < (t300.length : Int) := of_decide_eq_true (by first | (with_reducible assumption) | assumption)
                                      obtain ⟨ad309, A309_0, c309_0, e309, hx309_0, hl309_0, hi309_0⟩ := at_L2 (Kd.S_reads' HO_45.out).2.2 x47_2 p309 q309
                                      cases e309
                                      obtain ⟨ce309, hce309, hMe309, hcc309⟩ := Kd.S_get HO_45.out [] x47_2 p309 (by first | exact q309 | exact of_decide_eq_true (by first | (with_reducible assumption) | assumption) | (have e_ := (Kd.S_reads' HO_45.out).1; omega))
                                      obtain ⟨ve309_0, rfl, ge309_0⟩ := hMe309
                                      have hv309_0 := hcc309 0 _ rfl
                                      rw [Nat.add_zero, show ((Kd.slice 3 (Kd.int .i64))).sz = 1 from rfl, Nat.mul_one] at hv309_0
                                      replace hv309_0 := Option.some.inj (hv309_0.symm.trans hx309_0)
                                      rw [hv309_0] at ge309_0
                                      have HL309_0 := Aside0.mk (show Kd.R (Kd.int .i64) 3 _ _ _ _ (rd_L2 t300 x47_2) from ge309_0)
                                      clear hv309_0 ge309_0
                                      clear hcc309 hce309
                                      have HR309_0 := Aside0.mk hi309_0
                                      have HC309_0 := Aside0.mk hl309_0
                                      clear hi309_0 hl309_0
                                      replace p309 := eq_true p309
                                      replace q309 := eq_true q309
                                      go_wp2_with (first | ((with_reducible refine gate_callee (f := 20) rfl ?_); refine goesL_ (some 54) rfl rfl Try.func20 (by kernel_rfl) rfl #[.slice A309_0 (rd_L2 t300 x47_2).length c309_0] rfl (by (try simp only [List.map_toArray, List.map_cons, List.map_nil]); first | done | rfl | (simp only [List.length_drop, List.length_take]; rfl) | ((try simp only [KY51.out]); (try simp only [KY52.out]); first | done | rfl)) ?_; (with_reducible refine (impl_IsLyndon.calls k2 _ _ (rd_L2 t300 x47_2) true true _ ?side1 ?side2 A23.out).mono ?_); (case side1 => repeat (first | exact (by repeat (first | (with_reducible exact HR309_0.out) | (with_reducible refine Kd.C_alloc ?_ _) | (with_reducible refine Kd.C_drewN ?_ _) | (with_reducible refine Kd.C_drew ?_) | exact HR309_0.out)) | (with_reducible refine Kd.C_alloc ?_ _) | (with_reducible refine Kd.C_drewN ?_ _) | (with_reducible refine Kd.C_drew ?_))); (case side2 => exact HC309_0.out); rintro e w34 ⟨rfl, hb⟩; refine ⟨_, rfl, ?_⟩; have n0_ := Aside0.mk (Kd.R_below (by (with_reducible repeat (first | apply Kd.R_alloc | apply Kd.R_drewN | apply Kd.R_drew)); (first | exact HO_5.out | (have hz_ := HO_5.out; (try simp only [ob_] at hz_); (try simp only [ob_]); exact hz_))) hb); have n1_ := Aside0.mk (Kd.S_below (by (with_reducible repeat (first | apply Kd.S_alloc | apply Kd.S_drewN | apply Kd.S_drew)); (first | exact HO_6.out | (have hz_ := HO_6.out; (try simp only [ob_] at hz_); (try simp only [ob_]); exact hz_))) hb); have n2_ := Aside0.mk (Kd.R_below (by (with_reducible repeat (first | apply Kd.R_alloc | apply Kd.R_drewN | apply Kd.R_drew)); (first | exact HO_10.out | (have hz_ := HO_10.out; (try simp only [ob_] at hz_); (try simp only [ob_]); exact hz_))) hb); have n3_ := Aside0.mk (Kd.S_below (by (with_reducible repeat (first | apply Kd.S_alloc | apply Kd.S_drewN | apply Kd.S_drew)); (first | exact HO_45.out | (have hz_ := HO_45.out; (try simp only [ob_] at hz_); (try simp only [ob_]); exact hz_))) hb); have n4_ := Aside0.mk (Kd.R_below (by (with_reducible repeat (first | apply Kd.R_alloc | apply Kd.R_drewN | apply Kd.R_drew)); exact HL309_0.out) hb); have n5_ := Aside0.mk (Kd.C_below (by repeat (first | (with_reducible exact HR309_0.out) | (with_reducible refine Kd.C_alloc ?_ _) | (with_reducible refine Kd.C_drewN ?_ _) | (with_reducible refine Kd.C_drew ?_) | exact HR309_0.out)) hb); have n6_ := Aside0.mk (below_step (by repeat (first | (with_reducible first | exact HB.out | apply below_alloc | apply pw_below_drewN | apply below_drew1) | exact HB.out)) hb); clear HO_5; clear HO_6; clear HO_10; clear HO_45; clear HL309_0; clear HR309_0; clear HB; have HO_5 := n0_; have HO_6 := n1_; have HO_10 := n2_; have HO_45 := n3_; have HL309_0 := n4_; have HR309_0 := n5_; have HB := n6_; clear n0_ n1_ n2_ n3_ n4_ n5_ n6_; (try clear hb); (try clear hb2); (try clear hk); (try clear hi); have p312 : 0 ≤ ((ji27) : Int) := of_decide_eq_true (by first | (with_reducible assumption) | assumption); have q312 : (ji27) < (t300.length : Int) := of_decide_eq_true (by first | (with_reducible assumption) | assumption); obtain ⟨ad312, A312_0, c312_0, e312, hx312_0, hl312_0, hi312_0⟩ := at_L2 (Kd.S_reads' HO_6.out).2.2 (ji27) p312 q312; obtain rfl : ad309 = ad312 := (by injection e312); obtain ⟨ce312, hce312, hMe312, hcc312⟩ := Kd.S_get HO_6.out [] (ji27) p312 (by first | exact q312 | exact of_decide_eq_true (by first | (with_reducible assumption) | assumption) | (have e_ := (Kd.S_reads' HO_6.out).1; omega)); obtain ⟨ve312_0, rfl, ge312_0⟩ := hMe312; have hv312_0 := hcc312 0 _ rfl; rw [Nat.add_zero, show ((Kd.slice 3 (Kd.int .i64))).sz = 1 from rfl, Nat.mul_one] at hv312_0; replace hv312_0 := Option.some.inj (hv312_0.symm.trans hx312_0); rw [hv312_0] at ge312_0; have HL312_0 := Aside0.mk (show Kd.R (Kd.int .i64) 3 _ _ _ _ (rd_L2 t300 (ji27)) from ge312_0); clear hv312_0 ge312_0; clear hcc312 hce312; have HR312_0 := Aside0.mk hi312_0; have HC312_0 := Aside0.mk hl312_0; clear hi312_0 hl312_0; replace p312 := eq_true p312; replace q312 := eq_true q312) | (go_at_call 21; (with_reducible refine (laws_tLess.calls k2 _ _ (rd_L2 t300 (ji27)) _ _ (rd_L2 t300 x47_2) false _ ?side1 ?side2 ?side3 ?side4 A30.out).mono ?_); (case side1 => repeat (first | exact (by repeat (first | (with_reducible exact HR312_0.out) | (with_reducible refine Kd.C_alloc ?_ _) | (with_reducible refine Kd.C_drewN ?_ _) | (with_reducible refine Kd.C_drew ?_) | exact HR312_0.out)) | (with_reducible refine Kd.C_alloc ?_ _) | (with_reducible refine Kd.C_drewN ?_ _) | (with_reducible refine Kd.C_drew ?_))); (case side2 => exact HC312_0.out); (case side3 => repeat (first | exact (by repeat (first | (with_reducible exact HR309_0.out) | (with_reducible refine Kd.C_alloc ?_ _) | (with_reducible refine Kd.C_drewN ?_ _) | (with_reducible refine Kd.C_drew ?_) | exact HR309_0.out)) | (with_reducible refine Kd.C_alloc ?_ _) | (with_reducible refine Kd.C_drewN ?_ _) | (with_reducible refine Kd.C_drew ?_))); (case side4 => exact HC309_0.out); rintro e w' ⟨rfl, ⟨nd, rfl⟩⟩) | ((with_reducible refine gate_builtin (b := .append) (xs := #[.tmp 76, .tmp 77]) rfl ?_); (try (refine gate_guard (by rfl) ?_; dsimp only)); at_builtin; refine Kd.R_append_rows (Kd.int .i64) (w0 := w) w.heap.size rfl (.tmp 76) (.tmp 77) 24 3 (.int .i64 0) 8 rfl Try.underlying24 info3 rfl (by decide) (by omega) u10 x10_2 (rd_L2 t300 x47_2) _ _ _ (fun k_ => some k_ ≠ (.slice Ao10 t297.length co10 : Value).ownBlock) (fun _ => False) rfl rfl ?aO ?aR (fun _ _ h => h) (fun _ h => h.elim) ?aF ?aB ?aS ?aL ?_; (case aR => repeat (first | exact (by repeat (first | (with_reducible exact HR309_0.out) | (with_reducible refine Kd.C_alloc ?_ _) | (with_reducible refine Kd.C_drewN ?_ _) | (with_reducible refine Kd.C_drew ?_) | exact HR309_0.out)) | (with_reducible refine Kd.C_alloc ?_ _) | (with_reducible refine Kd.C_drewN ?_ _) | (with_reducible refine Kd.C_drew ?_))); (case aB => exact (by repeat (first | (with_reducible first | exact HB.out | apply below_alloc | apply pw_below_drewN | apply below_drew1) | exact HB.out))); (case aF => exact (fun k_ hk => Kd.fresh' (Kd.R_lt (by (with_reducible repeat (first | apply Kd.R_alloc | apply Kd.R_drewN | apply Kd.R_drew)); (first | exact HO_5.out | (have hz_ := HO_5.out; (try simp only [ob_] at hz_); (try simp only [ob_]); exact hz_)))) k_ hk)); (case aO => exact (by (with_reducible repeat (first | apply Kd.R_alloc | apply Kd.R_drewN | apply Kd.R_drew)); (first | exact HO_10.out | (have hz_ := HO_10.out; (try simp only [ob_] at hz_); (try simp only [ob_]); exact hz_)))); (case aS => exact (below_size (by repeat (first | (with_reducible first | exact HB.out | apply below_alloc | apply pw_below_drewN | apply below_drew1) | exact HB.out)))); (case aL => have := LMc33.out; omega); intro v315 w35 ho hb hg hat; rw [← Ny314.out] at ho; have n0_ := Aside0.mk (Kd.R_after (ok := (fun _ => True)) (by (with_reducible repeat (first | apply Kd.R_alloc | apply Kd.R_drewN | apply Kd.R_drew)); (first | exact Kd.R_mono HO_5.out (fun _ hk => ⟨trivial, hk⟩) | (have hz_ := Kd.R_mono HO_5.out (fun _ hk => ⟨trivial, hk⟩); (try simp only [ob_] at hz_); (try simp only [ob_]); exact hz_))) hg hat); have n1_ := Aside0.mk (Kd.S_after (ok := (fun k_ => some k_ ≠ (.slice Ao10 t297.length co10 : Value).ownBlock)) (by (with_reducible repeat (first | apply Kd.S_alloc | apply Kd.S_drewN | apply Kd.S_drew)); (first | exact HO_6.out | (have hz_ := HO_6.out; (try simp only [ob_] at hz_); (try simp only [ob_]); exact hz_))) hg hat); have n2_ := Aside0.mk (Kd.S_after (ok := (fun k_ => some k_ ≠ (.slice Ao10 t297.length co10 : Value).ownBlock)) (by (with_reducible repeat (first | apply Kd.S_alloc | apply Kd.S_drewN | apply Kd.S_drew)); (first | exact HO_45.out | (have hz_ := HO_45.out; (try simp only [ob_] at hz_); (try simp only [ob_]); exact hz_))) hg hat); have n3_ := Aside0.mk (Kd.R_after (ok := (fun k_ => some k_ ≠ (.slice Ao10 t297.length co10 : Value).ownBlock ∧ some k_ ≠ (.slice (some ad309) t300.length co19 : Value).ownBlock)) (by (with_reducible repeat (first | apply Kd.R_alloc | apply Kd.R_drewN | apply Kd.R_drew)); exact Kd.R_mono HL309_0.out (fun _ hk => ⟨⟨hk.1.1, hk.2⟩, hk.1.2⟩)) hg hat); have n4_ := Aside0.mk (Kd.R_after (ok := (fun k_ => some k_ ≠ (.slice Ao10 t297.length co10 : Value).ownBlock ∧ some k_ ≠ (.slice (some ad309) t300.length co19 : Value).ownBlock)) (by (with_reducible repeat (first | apply Kd.R_alloc | apply Kd.R_drewN | apply Kd.R_drew)); exact Kd.R_mono HL312_0.out (fun _ hk => ⟨⟨hk.1.1, hk.2⟩, hk.1.2⟩)) hg hat); have n5_ := Aside0.mk (hb); have n6_ := Aside0.mk (ho); clear HO_5; clear HO_6; clear HO_45; clear HL309_0; clear HL312_0; clear HB; clear HO_10; have HO_5 := n0_; have HO_6 := n1_; have HO_45 := n2_; have HL309_0 := n3_; have HL312_0 := n4_; have HB := n5_; have HO316 := n6_; clear n0_ n1_ n2_ n3_ n4_ n5_ n6_; clear ho hb hg hat))
                                      go_roundg k2
                                      case measure => have := HJ7.out; have := HK2.out; omega
                                      case rel => exact ⟨(y314), (wrap64 (x47_2 + 1)), (by first | rfl | (simp; done) | (simp [*]; done)), H', ⟨by have := HJ7.out; have := HK2.out; omega⟩, ⟨by (with_reducible repeat (first | apply Kd.R_alloc | apply Kd.R_drewN | apply Kd.R_drew)); (first | exact Kd.R_mono HO_5.out (fun _ hk => hk.2) | (have hz_ := Kd.R_mono HO_5.out (fun _ hk => hk.2); (try simp only [ob_] at hz_); (try simp only [ob_]); exact hz_))⟩, ⟨by (with_reducible repeat (first | apply Kd.S_alloc | apply Kd.S_drewN | apply Kd.S_drew)); (first | exact HO_6.out | (have hz_ := HO_6.out; (try simp only [ob_] at hz_); (try simp only [ob_]); exact hz_))⟩, ⟨by (with_reducible repeat (first | apply Kd.R_alloc | apply Kd.R_drewN | apply Kd.R_drew)); (first | exact HO316.out | (have hz_ := HO316.out; (try simp only [ob_] at hz_); (try simp only [ob_]); exact hz_))⟩, ⟨by (with_reducible repeat (first | apply Kd.S_alloc | apply Kd.S_drewN | apply Kd.S_drew)); (first | exact HO_45.out | (have hz_ := HO_45.out; (try simp only [ob_] at hz_); (try simp only [ob_]); exact hz_))⟩, ⟨by repeat (first | (with_reducible first | exact HB.out | apply below_alloc | apply pw_below_drewN | apply below_drew1) | exact HB.out)⟩⟩
                                  · rw [if_neg c33] at H
                                    exact absurd H (by simp)
                              · rw [if_neg c29] at H
                                exact absurd H (by simp)
                            · rw [if_neg c28] at H
                              exact absurd H (by simp)
                          · rw [if_neg c26] at H
                            have c26b0 : decide (0 < x47_2) = false := decide_eq_false c26
                            clear c26
                            by_cases c36 : x10_2.length + (rd_L2 t300 x47_2).length < 17592186044416
                            · as_aux_lemma =>
                                rw [if_pos c36] at H
                                have LMc36 := Aside0.mk c36
                                clear c36
                                obtain ⟨y317, hy317⟩ : ∃ y_ : List Int, y_ = (x10_2 ++ (rd_L2 t300 x47_2)) := ⟨_, rfl⟩
                                replace H : (laws_FnLyndonFactorsDoNotRise.l0 k2 t297 t300 y317 t300 (t300.length : Int) (wrap64 (x47_2 + 1))) = some r := by first | (rw [hy317]; with_reducible exact H) | (have H2_ := (Option.bind_some _ _).symm.trans H; rw [hy317]; with_reducible exact H2_) | (have H2_ := (Option.bind_some _ _).symm.trans H; with_reducible exact H2_) | with_reducible exact H | (rw [hy317]; exact H) | exact H
                                have Ny317 := Aside0.mk hy317
                                clear hy317
                                have H' := Aside0.mk H
                                clear H
                                have p309 : 0 ≤ (x47_2 : Int) := of_decide_eq_true (by first | (with_reducible assumption) | assumption)
                                have q309 : x47_2 < (t300.length : Int) := of_decide_eq_true (by first | (with_reducible assumption) | assumption)
                                obtain ⟨ad309, A309_0, c309_0, e309, hx309_0, hl309_0, hi309_0⟩ := at_L2 (Kd.S_reads' HO_45.out).2.2 x47_2 p309 q309
                                cases e309
                                obtain ⟨ce309, hce309, hMe309, hcc309⟩ := Kd.S_get HO_45.out [] x47_2 p309 (by first | exact q309 | exact of_decide_eq_true (by first | (with_reducible assumption) | assumption) | (have e_ := (Kd.S_reads' HO_45.out).1; omega))
                                obtain ⟨ve309_0, rfl, ge309_0⟩ := hMe309
                                have hv309_0 := hcc309 0 _ rfl
                                rw [Nat.add_zero, show ((Kd.slice 3 (Kd.int .i64))).sz = 1 from rfl, Nat.mul_one] at hv309_0
                                replace hv309_0 := Option.some.inj (hv309_0.symm.trans hx309_0)
                                rw [hv309_0] at ge309_0
                                have HL309_0 := Aside0.mk (show Kd.R (Kd.int .i64) 3 _ _ _ _ (rd_L2 t300 x47_2) from ge309_0)
                                clear hv309_0 ge309_0
                                clear hcc309 hce309
                                have HR309_0 := Aside0.mk hi309_0
                                have HC309_0 := Aside0.mk hl309_0
                                clear hi309_0 hl309_0
                                replace p309 := eq_true p309
                                replace q309 := eq_true q309
                                go_wp2_with (first | ((with_reducible refine gate_callee (f := 20) rfl ?_); refine goesL_ (some 54) rfl rfl Try.func20 (by kernel_rfl) rfl #[.slice A309_0 (rd_L2 t300 x47_2).length c309_0] rfl (by (try simp only [List.map_toArray, List.map_cons, List.map_nil]); first | done | rfl | (simp only [List.length_drop, List.length_take]; rfl) | ((try simp only [KY51.out]); (try simp only [KY52.out]); first | done | rfl)) ?_; (with_reducible refine (impl_IsLyndon.calls k2 _ _ (rd_L2 t300 x47_2) true true _ ?side1 ?side2 A23.out).mono ?_); (case side1 => repeat (first | exact (by repeat (first | (with_reducible exact HR309_0.out) | (with_reducible refine Kd.C_alloc ?_ _) | (with_reducible refine Kd.C_drewN ?_ _) | (with_reducible refine Kd.C_drew ?_) | exact HR309_0.out)) | (with_reducible refine Kd.C_alloc ?_ _) | (with_reducible refine Kd.C_drewN ?_ _) | (with_reducible refine Kd.C_drew ?_))); (case side2 => exact HC309_0.out); rintro e w37 ⟨rfl, hb⟩; refine ⟨_, rfl, ?_⟩; have n0_ := Aside0.mk (Kd.R_below (by (with_reducible repeat (first | apply Kd.R_alloc | apply Kd.R_drewN | apply Kd.R_drew)); (first | exact HO_5.out | (have hz_ := HO_5.out; (try simp only [ob_] at hz_); (try simp only [ob_]); exact hz_))) hb); have n1_ := Aside0.mk (Kd.S_below (by (with_reducible repeat (first | apply Kd.S_alloc | apply Kd.S_drewN | apply Kd.S_drew)); (first | exact HO_6.out | (have hz_ := HO_6.out; (try simp only [ob_] at hz_); (try simp only [ob_]); exact hz_))) hb); have n2_ := Aside0.mk (Kd.R_below (by (with_reducible repeat (first | apply Kd.R_alloc | apply Kd.R_drewN | apply Kd.R_drew)); (first | exact HO_10.out | (have hz_ := HO_10.out; (try simp only [ob_] at hz_); (try simp only [ob_]); exact hz_))) hb); have n3_ := Aside0.mk (Kd.S_below (by (with_reducible repeat (first | apply Kd.S_alloc | apply Kd.S_drewN | apply Kd.S_drew)); (first | exact HO_45.out | (have hz_ := HO_45.out; (try simp only [ob_] at hz_); (try simp only [ob_]); exact hz_))) hb); have n4_ := Aside0.mk (Kd.R_below (by (with_reducible repeat (first | apply Kd.R_alloc | apply Kd.R_drewN | apply Kd.R_drew)); exact HL309_0.out) hb); have n5_ := Aside0.mk (Kd.C_below (by repeat (first | (with_reducible exact HR309_0.out) | (with_reducible refine Kd.C_alloc ?_ _) | (with_reducible refine Kd.C_drewN ?_ _) | (with_reducible refine Kd.C_drew ?_) | exact HR309_0.out)) hb); have n6_ := Aside0.mk (below_step (by repeat (first | (with_reducible first | exact HB.out | apply below_alloc | apply pw_below_drewN | apply below_drew1) | exact HB.out)) hb); clear HO_5; clear HO_6; clear HO_10; clear HO_45; clear HL309_0; clear HR309_0; clear HB; have HO_5 := n0_; have HO_6 := n1_; have HO_10 := n2_; have HO_45 := n3_; have HL309_0 := n4_; have HR309_0 := n5_; have HB := n6_; clear n0_ n1_ n2_ n3_ n4_ n5_ n6_; (try clear hb); (try clear hb2); (try clear hk); (try clear hi)) | ((with_reducible refine gate_builtin (b := .append) (xs := #[.tmp 76, .tmp 77]) rfl ?_); (try (refine gate_guard (by rfl) ?_; dsimp only)); at_builtin; refine Kd.R_append_rows (Kd.int .i64) (w0 := w) w.heap.size rfl (.tmp 76) (.tmp 77) 24 3 (.int .i64 0) 8 rfl Try.underlying24 info3 rfl (by decide) (by omega) u10 x10_2 (rd_L2 t300 x47_2) _ _ _ (fun k_ => some k_ ≠ (.slice Ao10 t297.length co10 : Value).ownBlock) (fun _ => False) rfl rfl ?aO ?aR (fun _ _ h => h) (fun _ h => h.elim) ?aF ?aB ?aS ?aL ?_; (case aR => repeat (first | exact (by repeat (first | (with_reducible exact HR309_0.out) | (with_reducible refine Kd.C_alloc ?_ _) | (with_reducible refine Kd.C_drewN ?_ _) | (with_reducible refine Kd.C_drew ?_) | exact HR309_0.out)) | (with_reducible refine Kd.C_alloc ?_ _) | (with_reducible refine Kd.C_drewN ?_ _) | (with_reducible refine Kd.C_drew ?_))); (case aB => exact (by repeat (first | (with_reducible first | exact HB.out | apply below_alloc | apply pw_below_drewN | apply below_drew1) | exact HB.out))); (case aF => exact (fun k_ hk => Kd.fresh' (Kd.R_lt (by (with_reducible repeat (first | apply Kd.R_alloc | apply Kd.R_drewN | apply Kd.R_drew)); (first | exact HO_5.out | (have hz_ := HO_5.out; (try simp only [ob_] at hz_); (try simp only [ob_]); exact hz_)))) k_ hk)); (case aO => exact (by (with_reducible repeat (first | apply Kd.R_alloc | apply Kd.R_drewN | apply Kd.R_drew)); (first | exact HO_10.out | (have hz_ := HO_10.out; (try simp only [ob_] at hz_); (try simp only [ob_]); exact hz_)))); (case aS => exact (below_size (by repeat (first | (with_reducible first | exact HB.out | apply below_alloc | apply pw_below_drewN | apply below_drew1) | exact HB.out)))); (case aL => have := LMc36.out; omega); intro v318 w38 ho hb hg hat; rw [← Ny317.out] at ho; have n0_ := Aside0.mk (Kd.R_after (ok := (fun _ => True)) (by (with_reducible repeat (first | apply Kd.R_alloc | apply Kd.R_drewN | apply Kd.R_drew)); (first | exact Kd.R_mono HO_5.out (fun _ hk => ⟨trivial, hk⟩) | (have hz_ := Kd.R_mono HO_5.out (fun _ hk => ⟨trivial, hk⟩); (try simp only [ob_] at hz_); (try simp only [ob_]); exact hz_))) hg hat); have n1_ := Aside0.mk (Kd.S_after (ok := (fun k_ => some k_ ≠ (.slice Ao10 t297.length co10 : Value).ownBlock)) (by (with_reducible repeat (first | apply Kd.S_alloc | apply Kd.S_drewN | apply Kd.S_drew)); (first | exact HO_6.out | (have hz_ := HO_6.out; (try simp only [ob_] at hz_); (try simp only [ob_]); exact hz_))) hg hat); have n2_ := Aside0.mk (Kd.S_after (ok := (fun k_ => some k_ ≠ (.slice Ao10 t297.length co10 : Value).ownBlock)) (by (with_reducible repeat (first | apply Kd.S_alloc | apply Kd.S_drewN | apply Kd.S_drew)); (first | exact HO_45.out | (have hz_ := HO_45.out; (try simp only [ob_] at hz_); (try simp only [ob_]); exact hz_))) hg hat); have n3_ := Aside0.mk (Kd.R_after (ok := (fun k_ => some k_ ≠ (.slice Ao10 t297.length co10 : Value).ownBlock ∧ some k_ ≠ (.slice (some ad309) t300.length co19 : Value).ownBlock)) (by (with_reducible repeat (first | apply Kd.R_alloc | apply Kd.R_drewN | apply Kd.R_drew)); exact Kd.R_mono HL309_0.out (fun _ hk => ⟨⟨hk.1.1, hk.2⟩, hk.1.2⟩)) hg hat); have n4_ := Aside0.mk (hb); have n5_ := Aside0.mk (ho); clear HO_5; clear HO_6; clear HO_45; clear HL309_0; clear HB; clear HO_10; have HO_5 := n0_; have HO_6 := n1_; have HO_45 := n2_; have HL309_0 := n3_; have HB := n4_; have HO319 := n5_; clear n0_ n1_ n2_ n3_ n4_ n5_; clear ho hb hg hat))
                                go_roundg k2
                                case measure => have := HJ7.out; have := HK2.out; omega
                                case rel => exact ⟨(y317), (wrap64 (x47_2 + 1)), (by first | rfl | (simp; done) | (simp [*]; done)), H', ⟨by have := HJ7.out; have := HK2.out; omega⟩, ⟨by (with_reducible repeat (first | apply Kd.R_alloc | apply Kd.R_drewN | apply Kd.R_drew)); (first | exact Kd.R_mono HO_5.out (fun _ hk => hk.2) | (have hz_ := Kd.R_mono HO_5.out (fun _ hk => hk.2); (try simp only [ob_] at hz_); (try simp only [ob_]); exact hz_))⟩, ⟨by (with_reducible repeat (first | apply Kd.S_alloc | apply Kd.S_drewN | apply Kd.S_drew)); (first | exact HO_6.out | (have hz_ := HO_6.out; (try simp only [ob_] at hz_); (try simp only [ob_]); exact hz_))⟩, ⟨by (with_reducible repeat (first | apply Kd.R_alloc | apply Kd.R_drewN | apply Kd.R_drew)); (first | exact HO319.out | (have hz_ := HO319.out; (try simp only [ob_] at hz_); (try simp only [ob_]); exact hz_))⟩, ⟨by (with_reducible repeat (first | apply Kd.S_alloc | apply Kd.S_drewN | apply Kd.S_drew)); (first | exact HO_45.out | (have hz_ := HO_45.out; (try simp only [ob_] at hz_); (try simp only [ob_]); exact hz_))⟩, ⟨by repeat (first | (with_reducible first | exact HB.out | apply below_alloc | apply pw_below_drewN | apply below_drew1) | exact HB.out)⟩⟩
                            · rw [if_neg c36] at H
                              exact absurd H (by simp)
                        · as_aux_lemma =>
                            replace c25 := Bool.eq_false_iff.mpr c25
                            subst c25
                            have H1 : (some false) = some r := by rw [if_neg (show ¬ (false = true) by decide)] at H; exact H
                            clear H
                            have H := H1
                            clear H1
                            obtain rfl := Option.some.inj H
                            have p309 : 0 ≤ (x47_2 : Int) := of_decide_eq_true (by first | (with_reducible assumption) | assumption)
                            have q309 : x47_2 < (t300.length : Int) := of_decide_eq_true (by first | (with_reducible assumption) | assumption)
                            obtain ⟨ad309, A309_0, c309_0, e309, hx309_0, hl309_0, hi309_0⟩ := at_L2 (Kd.S_reads' HO_45.out).2.2 x47_2 p309 q309
                            cases e309
                            obtain ⟨ce309, hce309, hMe309, hcc309⟩ := Kd.S_get HO_45.out [] x47_2 p309 (by first | exact q309 | exact of_decide_eq_true (by first | (with_reducible assumption) | assumption) | (have e_ := (Kd.S_reads' HO_45.out).1; omega))
                            obtain ⟨ve309_0, rfl, ge309_0⟩ := hMe309
                            have hv309_0 := hcc309 0 _ rfl
                            rw [Nat.add_zero, show ((Kd.slice 3 (Kd.int .i64))).sz = 1 from rfl, Nat.mul_one] at hv309_0
                            replace hv309_0 := Option.some.inj (hv309_0.symm.trans hx309_0)
                            rw [hv309_0] at ge309_0
                            have HL309_0 := Aside0.mk (show Kd.R (Kd.int .i64) 3 _ _ _ _ (rd_L2 t300 x47_2) from ge309_0)
                            clear hv309_0 ge309_0
                            clear hcc309 hce309
                            have HR309_0 := Aside0.mk hi309_0
                            have HC309_0 := Aside0.mk hl309_0
                            clear hi309_0 hl309_0
                            replace p309 := eq_true p309
                            replace q309 := eq_true q309
                            go_wp2_with (first | ((with_reducible refine gate_callee (f := 20) rfl ?_); refine goesL_ (some 54) rfl rfl Try.func20 (by kernel_rfl) rfl #[.slice A309_0 (rd_L2 t300 x47_2).length c309_0] rfl (by (try simp only [List.map_toArray, List.map_cons, List.map_nil]); first | done | rfl | (simp only [List.length_drop, List.length_take]; rfl) | ((try simp only [KY51.out]); (try simp only [KY52.out]); first | done | rfl)) ?_; (with_reducible refine (impl_IsLyndon.calls k2 _ _ (rd_L2 t300 x47_2) false true _ ?side1 ?side2 A23.out).mono ?_); (case side1 => repeat (first | exact (by repeat (first | (with_reducible exact HR309_0.out) | (with_reducible refine Kd.C_alloc ?_ _) | (with_reducible refine Kd.C_drewN ?_ _) | (with_reducible refine Kd.C_drew ?_) | exact HR309_0.out)) | (with_reducible refine Kd.C_alloc ?_ _) | (with_reducible refine Kd.C_drewN ?_ _) | (with_reducible refine Kd.C_drew ?_))); (case side2 => exact HC309_0.out); rintro e w39 ⟨rfl, hb⟩; refine ⟨_, rfl, ?_⟩; have n0_ := Aside0.mk (Kd.R_below (by (with_reducible repeat (first | apply Kd.R_alloc | apply Kd.R_drewN | apply Kd.R_drew)); (first | exact HO_5.out | (have hz_ := HO_5.out; (try simp only [ob_] at hz_); (try simp only [ob_]); exact hz_))) hb); have n1_ := Aside0.mk (Kd.S_below (by (with_reducible repeat (first | apply Kd.S_alloc | apply Kd.S_drewN | apply Kd.S_drew)); (first | exact HO_6.out | (have hz_ := HO_6.out; (try simp only [ob_] at hz_); (try simp only [ob_]); exact hz_))) hb); have n2_ := Aside0.mk (Kd.R_below (by (with_reducible repeat (first | apply Kd.R_alloc | apply Kd.R_drewN | apply Kd.R_drew)); (first | exact HO_10.out | (have hz_ := HO_10.out; (try simp only [ob_] at hz_); (try simp only [ob_]); exact hz_))) hb); have n3_ := Aside0.mk (Kd.S_below (by (with_reducible repeat (first | apply Kd.S_alloc | apply Kd.S_drewN | apply Kd.S_drew)); (first | exact HO_45.out | (have hz_ := HO_45.out; (try simp only [ob_] at hz_); (try simp only [ob_]); exact hz_))) hb); have n4_ := Aside0.mk (Kd.R_below (by (with_reducible repeat (first | apply Kd.R_alloc | apply Kd.R_drewN | apply Kd.R_drew)); exact HL309_0.out) hb); have n5_ := Aside0.mk (Kd.C_below (by repeat (first | (with_reducible exact HR309_0.out) | (with_reducible refine Kd.C_alloc ?_ _) | (with_reducible refine Kd.C_drewN ?_ _) | (with_reducible refine Kd.C_drew ?_) | exact HR309_0.out)) hb); have n6_ := Aside0.mk (below_step (by repeat (first | (with_reducible first | exact HB.out | apply below_alloc | apply pw_below_drewN | apply below_drew1) | exact HB.out)) hb); clear HO_5; clear HO_6; clear HO_10; clear HO_45; clear HL309_0; clear HR309_0; clear HB; have HO_5 := n0_; have HO_6 := n1_; have HO_10 := n2_; have HO_45 := n3_; have HL309_0 := n4_; have HR309_0 := n5_; have HB := n6_; clear n0_ n1_ n2_ n3_ n4_ n5_ n6_; (try clear hb); (try clear hb2); (try clear hk); (try clear hi)))
                            go_ret
                            exact ⟨by first | rfl | (simp [errW_none, errW_some] <;> rfl) | (simp [*, errW_none, errW_some] <;> rfl), by repeat (first | (with_reducible first | exact HB.out | apply below_alloc | apply pw_below_drewN | apply below_drew1) | exact HB.out)⟩
                      · as_aux_lemma =>
                          replace c24 := Bool.eq_false_iff.mpr c24
                          subst c24
                          have H1 : (some false) = some r := by rw [if_neg (show ¬ (false = true) by decide)] at H; exact H
                          clear H
                          have H := H1
                          clear H1
                          obtain rfl := Option.some.inj H
                          have p309 : 0 ≤ (x47_2 : Int) := of_decide_eq_true (by first | (with_reducible assumption) | assumption)
                          have q309 : x47_2 < (t300.length : Int) := of_decide_eq_true (by first | (with_reducible assumption) | assumption)
                          obtain ⟨ad309, A309_0, c309_0, e309, hx309_0, hl309_0, hi309_0⟩ := at_L2 (Kd.S_reads' HO_45.out).2.2 x47_2 p309 q309
                          cases e309
                          obtain ⟨ce309, hce309, hMe309, hcc309⟩ := Kd.S_get HO_45.out [] x47_2 p309 (by first | exact q309 | exact of_decide_eq_true (by first | (with_reducible assumption) | assumption) | (have e_ := (Kd.S_reads' HO_45.out).1; omega))
                          obtain ⟨ve309_0, rfl, ge309_0⟩ := hMe309
                          have hv309_0 := hcc309 0 _ rfl
                          rw [Nat.add_zero, show ((Kd.slice 3 (Kd.int .i64))).sz = 1 from rfl, Nat.mul_one] at hv309_0
                          replace hv309_0 := Option.some.inj (hv309_0.symm.trans hx309_0)
                          rw [hv309_0] at ge309_0
                          have HL309_0 := Aside0.mk (show Kd.R (Kd.int .i64) 3 _ _ _ _ (rd_L2 t300 x47_2) from ge309_0)
                          clear hv309_0 ge309_0
                          clear hcc309 hce309
                          have HR309_0 := Aside0.mk hi309_0
                          have HC309_0 := Aside0.mk hl309_0
                          clear hi309_0 hl309_0
                          replace p309 := eq_true p309
                          replace q309 := eq_true q309
                          go_wp2_with (first | ((with_reducible refine gate_callee (f := 20) rfl ?_); refine goesL_ (some 54) rfl rfl Try.func20 (by kernel_rfl) rfl #[.slice A309_0 (rd_L2 t300 x47_2).length c309_0] rfl (by (try simp only [List.map_toArray, List.map_cons, List.map_nil]); first | done | rfl | (simp only [List.length_drop, List.length_take]; rfl) | ((try simp only [KY51.out]); (try simp only [KY52.out]); first | done | rfl)) ?_; (with_reducible refine (impl_IsLyndon.calls k2 _ _ (rd_L2 t300 x47_2) t310 false _ ?side1 ?side2 A23.out).mono ?_); (case side1 => repeat (first | exact (by repeat (first | (with_reducible exact HR309_0.out) | (with_reducible refine Kd.C_alloc ?_ _) | (with_reducible refine Kd.C_drewN ?_ _) | (with_reducible refine Kd.C_drew ?_) | exact HR309_0.out)) | (with_reducible refine Kd.C_alloc ?_ _) | (with_reducible refine Kd.C_drewN ?_ _) | (with_reducible refine Kd.C_drew ?_))); (case side2 => exact HC309_0.out); rintro e w40 ⟨rfl, hb⟩; refine ⟨_, rfl, ?_⟩; have n0_ := Aside0.mk (Kd.R_below (by (with_reducible repeat (first | apply Kd.R_alloc | apply Kd.R_drewN | apply Kd.R_drew)); (first | exact HO_5.out | (have hz_ := HO_5.out; (try simp only [ob_] at hz_); (try simp only [ob_]); exact hz_))) hb); have n1_ := Aside0.mk (Kd.S_below (by (with_reducible repeat (first | apply Kd.S_alloc | apply Kd.S_drewN | apply Kd.S_drew)); (first | exact HO_6.out | (have hz_ := HO_6.out; (try simp only [ob_] at hz_); (try simp only [ob_]); exact hz_))) hb); have n2_ := Aside0.mk (Kd.R_below (by (with_reducible repeat (first | apply Kd.R_alloc | apply Kd.R_drewN | apply Kd.R_drew)); (first | exact HO_10.out | (have hz_ := HO_10.out; (try simp only [ob_] at hz_); (try simp only [ob_]); exact hz_))) hb); have n3_ := Aside0.mk (Kd.S_below (by (with_reducible repeat (first | apply Kd.S_alloc | apply Kd.S_drewN | apply Kd.S_drew)); (first | exact HO_45.out | (have hz_ := HO_45.out; (try simp only [ob_] at hz_); (try simp only [ob_]); exact hz_))) hb); have n4_ := Aside0.mk (Kd.R_below (by (with_reducible repeat (first | apply Kd.R_alloc | apply Kd.R_drewN | apply Kd.R_drew)); exact HL309_0.out) hb); have n5_ := Aside0.mk (Kd.C_below (by repeat (first | (with_reducible exact HR309_0.out) | (with_reducible refine Kd.C_alloc ?_ _) | (with_reducible refine Kd.C_drewN ?_ _) | (with_reducible refine Kd.C_drew ?_) | exact HR309_0.out)) hb); have n6_ := Aside0.mk (below_step (by repeat (first | (with_reducible first | exact HB.out | apply below_alloc | apply pw_below_drewN | apply below_drew1) | exact HB.out)) hb); clear HO_5; clear HO_6; clear HO_10; clear HO_45; clear HL309_0; clear HR309_0; clear HB; have HO_5 := n0_; have HO_6 := n1_; have HO_10 := n2_; have HO_45 := n3_; have HL309_0 := n4_; have HR309_0 := n5_; have HB := n6_; clear n0_ n1_ n2_ n3_ n4_ n5_ n6_; (try clear hb); (try clear hb2); (try clear hk); (try clear hi)))
                          go_ret
                          exact ⟨by first | rfl | (simp [errW_none, errW_some] <;> rfl) | (simp [*, errW_none, errW_some] <;> rfl), by repeat (first | (with_reducible first | exact HB.out | apply below_alloc | apply pw_below_drewN | apply below_drew1) | exact HB.out)⟩
                    · rw [if_neg c22] at H
                      exact absurd H (by simp)
                  · rw [if_neg c21] at H
                    exact absurd H (by simp)
                · rw [if_neg c20] at H
                  have c20b0 : decide (x47_2 < (t300.length : Int)) = false := decide_eq_false c20
                  clear c20
                  replace H := Option.bind_eq_some_iff.mp H
                  obtain ⟨⟨t320, t321⟩, A410, H⟩ := H
                  replace H : (if 0 ≤ (wrap64 ((t300.length : Int) - 1)) then (if (wrap64 ((t300.length : Int) - 1)) < (t300.length : Int) then (laws_FnLyndonFactorsDoNotRise.l1 k2 t297 t300 x10_2 t320 t321 (rd_L2 t300 (wrap64 ((t300.length : Int) - 1))) 1) else (none)) else (none)) = some r := H
                  have A41 := Aside0.mk A410
                  clear A410
                  obtain ⟨ji42, hji42⟩ : ∃ j_ : Int, (wrap64 ((t300.length : Int) - 1)) = j_ := ⟨_, rfl⟩
                  replace H : (if 0 ≤ (ji42) then (if (ji42) < (t300.length : Int) then (laws_FnLyndonFactorsDoNotRise.l1 k2 t297 t300 x10_2 t320 t321 (rd_L2 t300 (ji42)) 1) else (none)) else (none)) = some r := by first | (rw [hji42] at H; exact H) | (simp only [hji42] at H ⊢; exact H)
                  (try rw [hji42] at A41)
                  have hji42w : (IntKind.i64.wrap ((t300.length : Int) - 1)) = ji42 := (i64_w _).trans hji42
                  by_cases c43 : 0 ≤ (ji42)
                  · rw [if_pos c43] at H
                    have c43b0 : decide (0 ≤ (ji42)) = true := decide_eq_true c43
                    clear c43
                    by_cases c44 : (ji42) < (t300.length : Int)
                    · rw [if_pos c44] at H
                      have c44b0 : decide ((ji42) < (t300.length : Int)) = true := decide_eq_true c44
                      clear c44
                      have H' := Aside0.mk H
                      clear H
                      go_wp2_with (first | ((with_reducible refine gate_callee (f := 20) rfl ?_); refine goesL_ (some 82) rfl rfl Try.func20 (by kernel_rfl) rfl #[.slice Ao10 t297.length co10] rfl (by (try simp only [List.map_toArray, List.map_cons, List.map_nil]); first | done | rfl | (simp only [List.length_drop, List.length_take]; rfl) | ((try simp only [KY51.out]); (try simp only [KY52.out]); first | done | rfl)) ?_; (with_reducible refine (impl_IsLyndon.calls k2 _ _ t297 t320 t321 _ ?side1 ?side2 A41.out).mono ?_); (case side1 => repeat (first | exact (Kd.R_reads' HO_5.out).2.2 | (with_reducible refine Kd.C_alloc ?_ _) | (with_reducible refine Kd.C_drewN ?_ _) | (with_reducible refine Kd.C_drew ?_))); (case side2 => exact (Kd.R_reads' HO_5.out).2.1); rintro e w45 ⟨rfl, hb⟩; refine ⟨_, rfl, ?_⟩; have n0_ := Aside0.mk (Kd.R_below (by (with_reducible repeat (first | apply Kd.R_alloc | apply Kd.R_drewN | apply Kd.R_drew)); (first | exact HO_5.out | (have hz_ := HO_5.out; (try simp only [ob_] at hz_); (try simp only [ob_]); exact hz_))) hb); have n1_ := Aside0.mk (Kd.S_below (by (with_reducible repeat (first | apply Kd.S_alloc | apply Kd.S_drewN | apply Kd.S_drew)); (first | exact HO_6.out | (have hz_ := HO_6.out; (try simp only [ob_] at hz_); (try simp only [ob_]); exact hz_))) hb); have n2_ := Aside0.mk (Kd.R_below (by (with_reducible repeat (first | apply Kd.R_alloc | apply Kd.R_drewN | apply Kd.R_drew)); (first | exact HO_10.out | (have hz_ := HO_10.out; (try simp only [ob_] at hz_); (try simp only [ob_]); exact hz_))) hb); have n3_ := Aside0.mk (Kd.S_below (by (with_reducible repeat (first | apply Kd.S_alloc | apply Kd.S_drewN | apply Kd.S_drew)); (first | exact HO_45.out | (have hz_ := HO_45.out; (try simp only [ob_] at hz_); (try simp only [ob_]); exact hz_))) hb); have n4_ := Aside0.mk (below_step (by repeat (first | (with_reducible first | exact HB.out | apply below_alloc | apply pw_below_drewN | apply below_drew1) | exact HB.out)) hb); clear HO_5; clear HO_6; clear HO_10; clear HO_45; clear HB; have HO_5 := n0_; have HO_6 := n1_; have HO_10 := n2_; have HO_45 := n3_; have HB := n4_; clear n0_ n1_ n2_ n3_ n4_; (try clear hb); (try clear hb2); (try clear hk); (try clear hi); have p322 : 0 ≤ ((ji42) : Int) := of_decide_eq_true (by first | (with_reducible assumption) | assumption); have q322 : (ji42) < (t300.length : Int) := of_decide_eq_true (by first | (with_reducible assumption) | assumption); obtain ⟨ad322, A322_0, c322_0, e322, hx322_0, hl322_0, hi322_0⟩ := at_L2 (Kd.S_reads' HO_6.out).2.2 (ji42) p322 q322; cases e322; obtain ⟨ce322, hce322, hMe322, hcc322⟩ := Kd.S_get HO_6.out [] (ji42) p322 (by first | exact q322 | exact of_decide_eq_true (by first | (with_reducible assumption) | assumption) | (have e_ := (Kd.S_reads' HO_6.out).1; omega)); obtain ⟨ve322_0, rfl, ge322_0⟩ := hMe322; have hv322_0 := hcc322 0 _ rfl; rw [Nat.add_zero, show ((Kd.slice 3 (Kd.int .i64))).sz = 1 from rfl, Nat.mul_one] at hv322_0; replace hv322_0 := Option.some.inj (hv322_0.symm.trans hx322_0); rw [hv322_0] at ge322_0; have HL322_0 := Aside0.mk (show Kd.R (Kd.int .i64) 3 _ _ _ _ (rd_L2 t300 (ji42)) from ge322_0); clear hv322_0 ge322_0; clear hcc322 hce322; have HR322_0 := Aside0.mk hi322_0; have HC322_0 := Aside0.mk hl322_0; clear hi322_0 hl322_0; replace p322 := eq_true p322; replace q322 := eq_true q322))
                      go_loopg [18] k2 (fun kq v18 w' => ∃ (x18_3 : Int), v18 = .int .i64 x18_3 ∧ Aside0 (laws_FnLyndonFactorsDoNotRise.l1 kq t297 t300 x10_2 t320 t321 (rd_L2 t300 (ji42)) x18_3 = some r) ∧ Aside0 (kq ≤ k2) ∧ Aside0 (Kd.R (Kd.int .i64) 3 w' w.heap.size (fun k_ => some k_ ≠ (u10 : Value).ownBlock) (.slice Ao10 t297.length co10) t297) ∧ Aside0 (Kd.S (Kd.slice 3 (Kd.int .i64)) 24 w' w.heap.size (fun k_ => some k_ ≠ ((.slice Ao10 t297.length co10) : Value).ownBlock ∧ some k_ ≠ (u10 : Value).ownBlock) (.slice (some ad322) t300.length co19) t300) ∧ Aside0 (Kd.R (Kd.int .i64) 3 w' w.heap.size (fun k_ => some k_ ≠ ((.slice Ao10 t297.length co10) : Value).ownBlock) u10 x10_2) ∧ Aside0 (Kd.C (Kd.int .i64) w' A322_0 (rd_L2 t300 (ji42)).length (rd_L2 t300 (ji42))) ∧ Aside0 (Below w.heap.size w w'))
                      case atStart => exact ⟨(1), (by first | rfl | (simp; done) | (simp [*]; done)), H', ⟨Nat.le_refl _⟩, ⟨by (with_reducible repeat (first | apply Kd.R_alloc | apply Kd.R_drewN | apply Kd.R_drew)); (first | exact HO_5.out | (have hz_ := HO_5.out; (try simp only [ob_] at hz_); (try simp only [ob_]); exact hz_))⟩, ⟨by (with_reducible repeat (first | apply Kd.S_alloc | apply Kd.S_drewN | apply Kd.S_drew)); (first | exact HO_6.out | (have hz_ := HO_6.out; (try simp only [ob_] at hz_); (try simp only [ob_]); exact hz_))⟩, ⟨by (with_reducible repeat (first | apply Kd.R_alloc | apply Kd.R_drewN | apply Kd.R_drew)); (first | exact HO_10.out | (have hz_ := HO_10.out; (try simp only [ob_] at hz_); (try simp only [ob_]); exact hz_))⟩, ⟨by repeat (first | (with_reducible exact HR322_0.out) | (with_reducible refine Kd.C_alloc ?_ _) | (with_reducible refine Kd.C_drewN ?_ _) | (with_reducible refine Kd.C_drew ?_) | exact HR322_0.out)⟩, ⟨by repeat (first | (with_reducible first | exact HB.out | apply below_alloc | apply pw_below_drewN | apply below_drew1) | exact HB.out)⟩⟩
                      case round =>
                        clear H'
                        try clear c1
                        try clear c2
                        try clear p2
                        try clear c3
                        try clear p3
                        try clear q3
                        try clear hx3
                        try clear c4
                        try clear p6
                        try clear c13
                        try clear c13b0
                        try clear c13b1
                        try clear c13b2
                        try clear c15
                        try clear c16
                        try clear c17
                        try clear c18
                        try clear c20
                        try clear c20b0
                        try clear c21
                        try clear c21b0
                        try clear c22
                        try clear c22b0
                        try clear c24
                        try clear c25
                        try clear c26
                        try clear c26b0
                        try clear c28
                        try clear c28b0
                        try clear c29
                        try clear c29b0
                        try clear c30
                        try clear p30
                        try clear q30
                        try clear hx30
                        try clear c31
                        try clear p31
                        try clear q31
                        try clear hx31
                        try clear c32
                        try clear p32
                        try clear q32
                        try clear hx32
                        try clear c33
                        try clear c36
                        try clear c43
                        try clear c43b0
                        try clear c44
                        try clear c44b0
                        try clear hx309_0
                        try clear hx312_0
                        try clear hx322_0
                        try clear p2
                        try clear p309
                        try clear p312
                        try clear p322
                        try clear q309
                        try clear q312
                        try clear q322
                        obtain ⟨x18_3, rfl, HA, HK3, HO_5, HO_6, HO_10, HR322_0, HB⟩ := hrel
                        cases gk with
                        | zero => exact absurd HA.out (by simp [laws_FnLyndonFactorsDoNotRise.l1])
                        | succ k3 =>
                          have H := HA.out
                          clear HA
                          simp only [laws_FnLyndonFactorsDoNotRise.l1] at H
                          by_cases c46 : x18_3 < (t297.length : Int)
                          · rw [if_pos c46] at H
                            have c46b0 : decide (x18_3 < (t297.length : Int)) = true := decide_eq_true c46
                            clear c46
                            by_cases c47 : 0 ≤ x18_3
                            · rw [if_pos c47] at H
                              have c47b0 := eq_true c47
                              have c47b1 : decide (0 ≤ x18_3) = true := decide_eq_true c47
                              clear c47
                              by_cases c48 : x18_3 ≤ (t297.length : Int)
                              · rw [if_pos c48] at H
                                have c48b0 := eq_true c48
                                have c48b1 : decide (x18_3 ≤ (t297.length : Int)) = true := decide_eq_true c48
                                clear c48
                                obtain ⟨y323, hy323⟩ : ∃ y_ : List Int, y_ = (t297.drop (x18_3 : Int).toNat) := ⟨_, rfl⟩
                                replace H : ((laws_tLess.f k3 y323 (rd_L2 t300 (ji42))).bind fun t327 => (if t327 = true then (some false) else (laws_FnLyndonFactorsDoNotRise.l1 k3 t297 t300 x10_2 t320 t321 (rd_L2 t300 (ji42)) (wrap64 (x18_3 + 1))))) = some r := by first | (rw [hy323]; with_reducible exact H) | (have H2_ := (Option.bind_some _ _).symm.trans H; rw [hy323]; with_reducible exact H2_) | (have H2_ := (Option.bind_some _ _).symm.trans H; with_reducible exact H2_) | with_reducible exact H | (rw [hy323]; exact H) | exact H
                                have Ny323 := Aside0.mk hy323
                                clear hy323
                                replace H := Option.bind_eq_some_iff.mp H
                                obtain ⟨t327, A490, H⟩ := H
                                replace H : (if t327 = true then (some false) else (laws_FnLyndonFactorsDoNotRise.l1 k3 t297 t300 x10_2 t320 t321 (rd_L2 t300 (ji42)) (wrap64 (x18_3 + 1)))) = some r := H
                                have A49 := Aside0.mk A490
                                clear A490
                                by_cases c50 : t327 = true
                                · as_aux_lemma =>
                                    subst c50
                                    have H1 : (some false) = some r := by rw [if_pos rfl] at H; exact H
                                    clear H
                                    have H := H1
                                    clear H1
                                    obtain rfl := Option.some.inj H
                                    have q51 : (x18_3 : Int) ≤ ((t297.length : Int) : Int) := of_decide_eq_true (by first | (with_reducible assumption) | assumption)
                                    obtain ⟨i051, hi051, _, hsz51, _⟩ := info_parts info3
                                    have hroom51 : t297.length ≤ co10 := (Kd.R_reads' HO_5.out).2.1
                                    have hC51 : Kd.C (Kd.int .i64) _ Ao10 t297.length t297 := (Kd.R_reads' HO_5.out).2.2
                                    have q051 : (0 : Int) ≤ (x18_3 : Int) := of_decide_eq_true (by first | (with_reducible assumption) | assumption)
                                    have hcut51 := cut_from (P := Try.prog) 24 3 .i64 Try.underlying24 hi051 1 hsz51 Ao10 t297.length co10 x18_3 q051 q51
                                    have hr51 := Kd.C_drop (m := (x18_3 : Int).toNat) (c := co10) hC51 (by omega) hroom51
                                    obtain ⟨A51, hA51⟩ : ∃ A1, A1 = (if co10 = (x18_3 : Int).toNat then Ao10 else (Ao10 : Option Addr).map (·.add ((x18_3 : Int).toNat * 1))) := ⟨_, rfl⟩
                                    obtain ⟨c51, hc51⟩ : ∃ c1, c1 = co10 - (x18_3 : Int).toNat := ⟨_, rfl⟩
                                    have hy51 : y323.length = t297.length - (x18_3 : Int).toNat := (by rw [Ny323.out, List.length_drop] <;> omega)
                                    rw [show (t297).drop (x18_3 : Int).toNat = y323 from Ny323.out.symm] at hr51
                                    replace hr51 : Kd.C (Kd.int .i64) _ A51 y323.length y323 := (by rw [hA51]; exact hr51)
                                    rw [← hy51, ← hA51, ← hc51] at hcut51
                                    have HR326 := Aside0.mk hr51
                                    have HC326 := Aside0.mk (show y323.length ≤ c51 from by rw [hy51, hc51]; exact Nat.sub_le_sub_right hroom51 _)
                                    clear hr51 hC51 hroom51 hi051 hsz51 hc51
                                    have KY51 := Aside0.mk hy51
                                    have KA51 := Aside0.mk hA51
                                    clear hy51 hA51
                                    have KL51 := Aside0.mk (show (x18_3 : Int).toNat ≤ t297.length from by omega)
                                    replace q51 := eq_true q51
                                    go_wp2_with (first | ((with_reducible refine gate_callee (f := 21) rfl ?_); refine goesL_ (some 101) rfl rfl Try.func21 (by kernel_rfl) rfl #[.slice A51 y323.length c51, .slice A322_0 (rd_L2 t300 (ji42)).length c322_0] rfl (by (try simp only [List.map_toArray, List.map_cons, List.map_nil]); first | done | rfl | (simp only [List.length_drop, List.length_take]; rfl) | ((try simp only [KY51.out]); (try simp only [KY52.out]); first | done | rfl)) ?_; (with_reducible refine (laws_tLess.calls k3 _ _ y323 _ _ (rd_L2 t300 (ji42)) true _ ?side1 ?side2 ?side3 ?side4 A49.out).mono ?_); (case side1 => repeat (first | exact (by repeat (first | (with_reducible exact HR326.out) | (with_reducible refine Kd.C_alloc ?_ _) | (with_reducible refine Kd.C_drewN ?_ _) | (with_reducible refine Kd.C_drew ?_) | exact HR326.out)) | (with_reducible refine Kd.C_alloc ?_ _) | (with_reducible refine Kd.C_drewN ?_ _) | (with_reducible refine Kd.C_drew ?_))); (case side2 => exact HC326.out); (case side3 => repeat (first | exact (Kd.C_below HR322_0.out HB.out) | (with_reducible exact HR322_0.out) | (with_reducible refine Kd.C_alloc ?_ _) | (with_reducible refine Kd.C_drewN ?_ _) | (with_reducible refine Kd.C_drew ?_))); (case side4 => exact HC322_0.out); rintro e w' ⟨rfl, ⟨nd, rfl⟩⟩; refine ⟨_, rfl, ?_⟩))
                                    go_ret
                                    exact ⟨by first | rfl | (simp [errW_none, errW_some] <;> rfl) | (simp only [← hji42]; first | rfl | (simp [errW_none, errW_some] <;> rfl)) | (simp [*, errW_none, errW_some] <;> rfl), by repeat (first | (with_reducible first | exact HB.out | apply below_alloc | apply pw_below_drewN | apply below_drew1) | exact HB.out)⟩
                                · as_aux_lemma =>
                                    replace c50 := Bool.eq_false_iff.mpr c50
                                    subst c50
                                    have H1 : (laws_FnLyndonFactorsDoNotRise.l1 k3 t297 t300 x10_2 t320 t321 (rd_L2 t300 (ji42)) (wrap64 (x18_3 + 1))) = some r := by rw [if_neg (show ¬ (false = true) by decide)] at H; exact H
                                    clear H
                                    have H := H1
                                    clear H1
                                    have H' := Aside0.mk H
                                    clear H
                                    have q52 : (x18_3 : Int) ≤ ((t297.length : Int) : Int) := of_decide_eq_true (by first | (with_reducible assumption) | assumption)
                                    obtain ⟨i052, hi052, _, hsz52, _⟩ := info_parts info3
                                    have hroom52 : t297.length ≤ co10 := (Kd.R_reads' HO_5.out).2.1
                                    have hC52 : Kd.C (Kd.int .i64) _ Ao10 t297.length t297 := (Kd.R_reads' HO_5.out).2.2
                                    have q052 : (0 : Int) ≤ (x18_3 : Int) := of_decide_eq_true (by first | (with_reducible assumption) | assumption)
                                    have hcut52 := cut_from (P := Try.prog) 24 3 .i64 Try.underlying24 hi052 1 hsz52 Ao10 t297.length co10 x18_3 q052 q52
                                    have hr52 := Kd.C_drop (m := (x18_3 : Int).toNat) (c := co10) hC52 (by omega) hroom52
                                    obtain ⟨A52, hA52⟩ : ∃ A1, A1 = (if co10 = (x18_3 : Int).toNat then Ao10 else (Ao10 : Option Addr).map (·.add ((x18_3 : Int).toNat * 1))) := ⟨_, rfl⟩
                                    obtain ⟨c52, hc52⟩ : ∃ c1, c1 = co10 - (x18_3 : Int).toNat := ⟨_, rfl⟩
                                    have hy52 : y323.length = t297.length - (x18_3 : Int).toNat := (by rw [Ny323.out, List.length_drop] <;> omega)
                                    rw [show (t297).drop (x18_3 : Int).toNat = y323 from Ny323.out.symm] at hr52
                                    replace hr52 : Kd.C (Kd.int .i64) _ A52 y323.length y323 := (by rw [hA52]; exact hr52)
                                    rw [← hy52, ← hA52, ← hc52] at hcut52
                                    have HR326 := Aside0.mk hr52
                                    have HC326 := Aside0.mk (show y323.length ≤ c52 from by rw [hy52, hc52]; exact Nat.sub_le_sub_right hroom52 _)
                                    clear hr52 hC52 hroom52 hi052 hsz52 hc52
                                    have KY52 := Aside0.mk hy52
                                    have KA52 := Aside0.mk hA52
                                    clear hy52 hA52
                                    have KL52 := Aside0.mk (show (x18_3 : Int).toNat ≤ t297.length from by omega)
                                    replace q52 := eq_true q52
                                    go_wp2_with (first | ((with_reducible refine gate_callee (f := 21) rfl ?_); refine goesL_ (some 101) rfl rfl Try.func21 (by kernel_rfl) rfl #[.slice A52 y323.length c52, .slice A322_0 (rd_L2 t300 (ji42)).length c322_0] rfl (by (try simp only [List.map_toArray, List.map_cons, List.map_nil]); first | done | rfl | (simp only [List.length_drop, List.length_take]; rfl) | ((try simp only [KY51.out]); (try simp only [KY52.out]); first | done | rfl)) ?_; (with_reducible refine (laws_tLess.calls k3 _ _ y323 _ _ (rd_L2 t300 (ji42)) false _ ?side1 ?side2 ?side3 ?side4 A49.out).mono ?_); (case side1 => repeat (first | exact (by repeat (first | (with_reducible exact HR326.out) | (with_reducible refine Kd.C_alloc ?_ _) | (with_reducible refine Kd.C_drewN ?_ _) | (with_reducible refine Kd.C_drew ?_) | exact HR326.out)) | (with_reducible refine Kd.C_alloc ?_ _) | (with_reducible refine Kd.C_drewN ?_ _) | (with_reducible refine Kd.C_drew ?_))); (case side2 => exact HC326.out); (case side3 => repeat (first | exact (Kd.C_below HR322_0.out HB.out) | (with_reducible exact HR322_0.out) | (with_reducible refine Kd.C_alloc ?_ _) | (with_reducible refine Kd.C_drewN ?_ _) | (with_reducible refine Kd.C_drew ?_))); (case side4 => exact HC322_0.out); rintro e w' ⟨rfl, ⟨nd, rfl⟩⟩; refine ⟨_, rfl, ?_⟩))
                                    go_roundg k3
                                    case measure => have := HJ7.out; have := HK2.out; have := HK3.out; omega
                                    case rel => exact ⟨(wrap64 (x18_3 + 1)), (by first | rfl | (simp; done) | (simp [*]; done)), H', ⟨by have := HJ7.out; have := HK2.out; have := HK3.out; omega⟩, ⟨by (with_reducible repeat (first | apply Kd.R_alloc | apply Kd.R_drewN | apply Kd.R_drew)); (first | exact HO_5.out | (have hz_ := HO_5.out; (try simp only [ob_] at hz_); (try simp only [ob_]); exact hz_))⟩, ⟨by (with_reducible repeat (first | apply Kd.S_alloc | apply Kd.S_drewN | apply Kd.S_drew)); (first | exact HO_6.out | (have hz_ := HO_6.out; (try simp only [ob_] at hz_); (try simp only [ob_]); exact hz_))⟩, ⟨by (with_reducible repeat (first | apply Kd.R_alloc | apply Kd.R_drewN | apply Kd.R_drew)); (first | exact HO_10.out | (have hz_ := HO_10.out; (try simp only [ob_] at hz_); (try simp only [ob_]); exact hz_))⟩, ⟨by repeat (first | (with_reducible exact HR322_0.out) | (with_reducible refine Kd.C_alloc ?_ _) | (with_reducible refine Kd.C_drewN ?_ _) | (with_reducible refine Kd.C_drew ?_) | exact HR322_0.out)⟩, ⟨by repeat (first | (with_reducible first | exact HB.out | apply below_alloc | apply pw_below_drewN | apply below_drew1) | exact HB.out)⟩⟩
                              · rw [if_neg c48] at H
                                exact absurd H (by simp)
                            · rw [if_neg c47] at H
                              exact absurd H (by simp)
                          · rw [if_neg c46] at H
                            have c46b0 : decide (x18_3 < (t297.length : Int)) = false := decide_eq_false c46
                            clear c46
                            by_cases c53 : t321 = true
                            · subst c53
                              have H1 : ((laws_tSame.f k3 x10_2 t297).bind fun t328 => (if t328 = true then (some (t320 == ((t300.length : Int) == 1))) else (some false))) = some r := by rw [if_pos rfl] at H; exact H
                              clear H
                              have H := H1
                              clear H1
                              replace H := Option.bind_eq_some_iff.mp H
                              obtain ⟨t328, A540, H⟩ := H
                              replace H : (if t328 = true then (some (t320 == ((t300.length : Int) == 1))) else (some false)) = some r := H
                              have A54 := Aside0.mk A540
                              clear A540
                              by_cases c55 : t328 = true
                              · as_aux_lemma =>
                                  subst c55
                                  have H1 : (some (t320 == ((t300.length : Int) == 1))) = some r := by rw [if_pos rfl] at H; exact H
                                  clear H
                                  have H := H1
                                  clear H1
                                  obtain rfl := Option.some.inj H
                                  obtain ⟨Ao56, co56, eo56⟩ := Kd.R_slice HO_10.out
                                  subst eo56
                                  go_wp2_with (first | (go_at_call 22; (with_reducible refine (laws_tSame.calls k3 _ _ x10_2 _ _ t297 true _ ?side1 ?side2 ?side3 ?side4 A54.out).mono ?_); (case side1 => repeat (first | exact (Kd.R_reads' HO_10.out).2.2 | (with_reducible refine Kd.C_alloc ?_ _) | (with_reducible refine Kd.C_drewN ?_ _) | (with_reducible refine Kd.C_drew ?_))); (case side2 => exact (Kd.R_reads' HO_10.out).2.1); (case side3 => repeat (first | exact (Kd.R_reads' HO_5.out).2.2 | (with_reducible refine Kd.C_alloc ?_ _) | (with_reducible refine Kd.C_drewN ?_ _) | (with_reducible refine Kd.C_drew ?_))); (case side4 => exact (Kd.R_reads' HO_5.out).2.1); rintro e w' ⟨rfl, ⟨nd, rfl⟩⟩))
                                  go_ret
                                  exact ⟨by first | rfl | (simp [errW_none, errW_some] <;> rfl) | (simp only [← hji42]; first | rfl | (simp [errW_none, errW_some] <;> rfl)) | (simp [*, errW_none, errW_some] <;> rfl), by repeat (first | (with_reducible first | exact HB.out | apply below_alloc | apply pw_below_drewN | apply below_drew1) | exact HB.out)⟩
                              · as_aux_lemma =>
                                  replace c55 := Bool.eq_false_iff.mpr c55
                                  subst c55
                                  have H1 : (some false) = some r := by rw [if_neg (show ¬ (false = true) by decide)] at H; exact H
                                  clear H
                                  have H := H1
                                  clear H1
                                  obtain rfl := Option.some.inj H
                                  obtain ⟨Ao57, co57, eo57⟩ := Kd.R_slice HO_10.out
                                  subst eo57
                                  go_wp2_with (first | (go_at_call 22; (with_reducible refine (laws_tSame.calls k3 _ _ x10_2 _ _ t297 false _ ?side1 ?side2 ?side3 ?side4 A54.out).mono ?_); (case side1 => repeat (first | exact (Kd.R_reads' HO_10.out).2.2 | (with_reducible refine Kd.C_alloc ?_ _) | (with_reducible refine Kd.C_drewN ?_ _) | (with_reducible refine Kd.C_drew ?_))); (case side2 => exact (Kd.R_reads' HO_10.out).2.1); (case side3 => repeat (first | exact (Kd.R_reads' HO_5.out).2.2 | (with_reducible refine Kd.C_alloc ?_ _) | (with_reducible refine Kd.C_drewN ?_ _) | (with_reducible refine Kd.C_drew ?_))); (case side4 => exact (Kd.R_reads' HO_5.out).2.1); rintro e w' ⟨rfl, ⟨nd, rfl⟩⟩))
                                  go_ret
                                  exact ⟨by first | rfl | (simp [errW_none, errW_some] <;> rfl) | (simp only [← hji42]; first | rfl | (simp [errW_none, errW_some] <;> rfl)) | (simp [*, errW_none, errW_some] <;> rfl), by repeat (first | (with_reducible first | exact HB.out | apply below_alloc | apply pw_below_drewN | apply below_drew1) | exact HB.out)⟩
                            · as_aux_lemma =>
                                replace c53 := Bool.eq_false_iff.mpr c53
                                subst c53
                                have H1 : (some false) = some r := by rw [if_neg (show ¬ (false = true) by decide)] at H; exact H
                                clear H
                                have H := H1
                                clear H1
                                obtain rfl := Option.some.inj H
                                go_wp2
                                go_ret
                                exact ⟨by first | rfl | (simp [errW_none, errW_some] <;> rfl) | (simp only [← hji42]; first | rfl | (simp [errW_none, errW_some] <;> rfl)) | (simp [*, errW_none, errW_some] <;> rfl), by repeat (first | (with_reducible first | exact HB.out | apply below_alloc | apply pw_below_drewN | apply below_drew1) | exact HB.out)⟩
                    · rw [if_neg c44] at H
                      exact absurd H (by simp)
                  · rw [if_neg c43] at H
                    exact absurd H (by simp)
          · as_aux_lemma =>
              replace c18 := Bool.eq_false_iff.mpr c18
              subst c18
              have H1 : (some true) = some r := by rw [if_neg (show ¬ (false = true) by decide)] at H; exact H
              clear H
              have H := H1
              clear H1
              obtain rfl := Option.some.inj H
              go_wp2
              go_ret
              exact ⟨by first | rfl | (simp [errW_none, errW_some] <;> rfl) | (simp [*, errW_none, errW_some] <;> rfl), by repeat (first | (with_reducible first | exact HB.out | apply below_alloc | apply pw_below_drewN | apply below_drew1) | exact HB.out)⟩

/-- THE ONE PURE STATEMENT of laws_FnLyndonFactorsDoNotRise: yours. -/
def laws_FnLyndonFactorsDoNotRise.Pure : Prop := ∀ (l0 : List Int) (l1 : List Int), l0.length ≤ maxLen → l0.length * 1 ≤ 140737488351232 → (∀ x ∈ l0, (Lit.int .u8 x).wf = true) → l1.length ≤ maxLen → l1.length * 1 ≤ 140737488351232 → (∀ x ∈ l1, (Lit.int .u8 x).wf = true) → ∃ k, laws_FnLyndonFactorsDoNotRise.f k l0 l1 = some true
theorem laws_FnLyndonFactorsDoNotRise.walk (P : laws_FnLyndonFactorsDoNotRise.Pure) (a0 : Option Addr) (len0 cap0 : Nat) (z0 : List Int) (a1 : Option Addr) (len1 cap1 : Nat) (z1 : List Int) (w : World) (w0 : (a0 = none ∧ len0 = 0 ∧ cap0 = 0 ∧ z0 = []) ∨ ∃ x, a0 = some x ∧ len0 ≤ cap0 ∧ cap0 ≤ maxLen ∧ z0.length = cap0 ∧ (∀ i, i < z0.length → w.cell? (x.add i) = some (.int .u8 (z0.getD i 0))) ∧ ∀ n ∈ z0, (Lit.int .u8 n).wf = true) (y0 : len0 * 1 ≤ 140737488351232) (w1 : (a1 = none ∧ len1 = 0 ∧ cap1 = 0 ∧ z1 = []) ∨ ∃ x, a1 = some x ∧ len1 ≤ cap1 ∧ cap1 ≤ maxLen ∧ z1.length = cap1 ∧ (∀ i, i < z1.length → w.cell? (x.add i) = some (.int .u8 (z1.getD i 0))) ∧ ∀ n ∈ z1, (Lit.int .u8 n).wf = true) (y1 : len1 * 1 ≤ 140737488351232) :
    Calls Try.prog 3 #[.slice a0 len0 cap0, .slice a1 len1 cap1] w fun e w' => e = .returned (.bool true) ∧ Below w.heap.size w w' := by
  obtain ⟨l0, rfl, hr0, hm0, hw0, hc0⟩ := ReadsInt.ofRowC w0
  obtain ⟨l1, rfl, hr1, hm1, hw1, hc1⟩ := ReadsInt.ofRowC w1
  obtain ⟨k, h⟩ := P l0 l1 hm0 y0 hw0 hm1 y1 hw1
  refine (laws_FnLyndonFactorsDoNotRise.calls k _ _ l0 _ _ l1 true w (Kd.C_of_reads (d := (0 : Int)) (h1 := fun _ => rfl) hr0) hc0 (Kd.C_of_reads (d := (0 : Int)) (h1 := fun _ => rfl) hr1) hc1 h).mono ?_
  rintro e w' ⟨rfl, hd⟩
  exact ⟨rfl, hd⟩

end Go.Proofs.Ytaaoeaojimjikaa.HFnLyndonFactorsDoNotRise
