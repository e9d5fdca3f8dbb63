/- Written by this session's program hprint.py out of the loaded functions: what each function computes, and the proof that the machine's call does just that. -/
import Derived.Test.YtmcmglclgdgdnaaHFnLeastRotationsx0
import Derived.Test.YtmcmglclgdgdnaaHFnLeastRotationsx1
import Derived.Test.YtmcmglclgdgdnaaHFnLeastRotationsx2
import Derived.Test.YtmcmglclgdgdnaaHFnLeastRotationsx3
import Derived.Test.YtmcmglclgdgdnaaHFnLeastRotationsx4
import Derived.Test.YtmcmglclgdgdnaaHFnLeastRotationsx5
namespace Go.Proofs.Ytmcmglclgdgdnaa.HFnLeastRotations
open Go.RowKit Go.Proofs.YtmcmglclgdgdnaaW.PrintWords Go.Proofs.YtmcmglclgdgdnaaW.PrintLast Go.Proofs.YtmcmglclgdgdnaaW.PrintMore
attribute [local go_sem] max2_int min2_int max_two min_two max_three min_three max_four min_four   -- for this text's walks alone
set_option linter.unusedVariables false
set_option linter.unusedSimpArgs false

/-! ### laws_FnLeastRotations: function 12 -/
mutual
def laws_FnLeastRotations.j0 : Nat → List Int → Int → List Int → Bool → Bool → Option (Bool)
  | 0, _, _, _, _, _ => none
  | k + 1, x5, x6, x7, x11, x59 => if x59 = true then (some false) else (if x11 = true then ((impl_RotateWord.f k x5 x6).bind fun bt277 => ((impl_IsNecklace.f k x7).bind fun bt281 => ((impl_RootLength.f k x5).bind fun bt283 => ((impl_IsNecklace.f k x5).bind fun bt285 => (if bt277.2 = true then (if bt281.2 = true then (if bt283.2 = true then (if bt285.2 = true then (if bt281.1 = true then ((laws_tSame.f k bt277.1 x7).bind fun t287 => (if t287 = true then ((laws_tSame.f k x5 x7).bind fun t288 => (if (bt285.1 != t288) = true then (laws_FnLeastRotations.j1 k x5 x7 bt283.1 bt285.1 true) else (if bt283.1 = 0 then (none) else (if ((x5.length : Int) % bt283.1) = 0 then (laws_FnLeastRotations.j1 k x5 x7 bt283.1 bt285.1 (decide (x6 ≥ bt283.1))) else (laws_FnLeastRotations.j1 k x5 x7 bt283.1 bt285.1 true))))) else (laws_FnLeastRotations.j1 k x5 x7 bt283.1 bt285.1 true))) else (laws_FnLeastRotations.j1 k x5 x7 bt283.1 bt285.1 true)) else (laws_FnLeastRotations.j1 k x5 x7 bt283.1 bt285.1 true)) else (laws_FnLeastRotations.j1 k x5 x7 bt283.1 bt285.1 true)) else (laws_FnLeastRotations.j1 k x5 x7 bt283.1 bt285.1 true)) else (laws_FnLeastRotations.j1 k x5 x7 bt283.1 bt285.1 true)))))) else (some true))
def laws_FnLeastRotations.j1 : Nat → List Int → List Int → Int → Bool → Bool → Option (Bool)
  | 0, _, _, _, _, _ => none
  | k + 1, x5, x7, x16, x18, x125 => if x125 = true then (some false) else (laws_FnLeastRotations.l0 k x5 x7 x16 x18 0 (x5.length : Int) 0)
def laws_FnLeastRotations.l0 : Nat → List Int → List Int → Int → Bool → Int → Int → Int → Option (Bool)
  | 0, _, _, _, _, _, _, _ => none
  | k + 1, x5, x7, x16, x18, x20, x127, x128 => if x128 < x127 then ((impl_RotateWord.f k x5 x128).bind fun bt291 => ((impl_LeastRotation.f k bt291.1).bind fun bt295 => (if bt291.2 = true then (if bt295.2.2 = true then ((laws_tSame.f k bt295.2.1 x7).bind fun t300 => (if t300 = true then ((laws_tLess.f k bt291.1 x7).bind fun t301 => (laws_FnLeastRotations.j3 k x5 x7 x16 x18 x20 bt291.1 x127 x128 t301)) else (laws_FnLeastRotations.j3 k x5 x7 x16 x18 x20 bt291.1 x127 x128 true))) else (laws_FnLeastRotations.j3 k x5 x7 x16 x18 x20 bt291.1 x127 x128 true)) else (laws_FnLeastRotations.j3 k x5 x7 x16 x18 x20 bt291.1 x127 x128 true)))) else ((impl_IsLyndon.f k x5).bind fun bt289 => (if bt289.2 = true then (if (wrap64 (x20 * x16)) = (x5.length : Int) then (if x18 = true then (some (bt289.1 == (x16 == (x5.length : Int)))) else (some (bt289.1 == false))) else (some false)) else (some false)))
def laws_FnLeastRotations.j3 : Nat → List Int → List Int → Int → Bool → Int → List Int → Int → Int → Bool → Option (Bool)
  | 0, _, _, _, _, _, _, _, _, _ => none
  | k + 1, x5, x7, x16, x18, x20, x22, x127, x128, x159 => if x159 = true then (some false) else ((laws_tSame.f k x22 x5).bind fun t302 => (if t302 = true then (laws_FnLeastRotations.l0 k x5 x7 x16 x18 (wrap64 (x20 + 1)) x127 (wrap64 (x128 + 1))) else (laws_FnLeastRotations.l0 k x5 x7 x16 x18 x20 x127 (wrap64 (x128 + 1)))))
end
def laws_FnLeastRotations.f (k : Nat) (l0 : List Int) (l1 : List Int) : Option (Bool) := (laws_big.f l0 l1).bind fun t262 => (if t262 = true then (some true) else ((spec_DrawLeastRotation.f k l0).bind fun t263 => ((impl_LeastRotation.f k t263).bind fun bt266 => ((spec_LeastRotation.f k t263).bind fun bt271 => (if (bt266.2.2 != bt271.2.2) = true then (laws_FnLeastRotations.j0 k t263 bt266.1 bt266.2.1 bt271.2.2 true) else (if bt266.1 = bt271.1 then ((laws_tSame.f k bt266.2.1 bt271.2.1).bind fun t276 => (laws_FnLeastRotations.j0 k t263 bt266.1 bt266.2.1 bt271.2.2 (!t276))) else (laws_FnLeastRotations.j0 k t263 bt266.1 bt266.2.1 bt271.2.2 true)))))))
theorem laws_FnLeastRotations.mono_l : ∀ k, (∀ y0 y1 y2 y3 y4, LeO (laws_FnLeastRotations.j0 k y0 y1 y2 y3 y4) (laws_FnLeastRotations.j0 (k + 1) y0 y1 y2 y3 y4)) ∧ (∀ y0 y1 y2 y3 y4, LeO (laws_FnLeastRotations.j1 k y0 y1 y2 y3 y4) (laws_FnLeastRotations.j1 (k + 1) y0 y1 y2 y3 y4)) ∧ (∀ y0 y1 y2 y3 y4 y5 y6, LeO (laws_FnLeastRotations.l0 k y0 y1 y2 y3 y4 y5 y6) (laws_FnLeastRotations.l0 (k + 1) y0 y1 y2 y3 y4 y5 y6)) ∧ (∀ y0 y1 y2 y3 y4 y5 y6 y7 y8, LeO (laws_FnLeastRotations.j3 k y0 y1 y2 y3 y4 y5 y6 y7 y8) (laws_FnLeastRotations.j3 (k + 1) y0 y1 y2 y3 y4 y5 y6 y7 y8))
  | 0 => ⟨fun _ _ _ _ _ r h => by simp [laws_FnLeastRotations.j0] at h, fun _ _ _ _ _ r h => by simp [laws_FnLeastRotations.j1] at h, fun _ _ _ _ _ _ _ r h => by simp [laws_FnLeastRotations.l0] at h, fun _ _ _ _ _ _ _ _ _ r h => by simp [laws_FnLeastRotations.j3] at h⟩
  | k + 1 => by
    obtain ⟨ih0, ih1, ih2, ih3⟩ := laws_FnLeastRotations.mono_l k
    refine ⟨?_, ?_, ?_, ?_⟩
    · intro y0 y1 y2 y3 y4
      unfold laws_FnLeastRotations.j0
      repeat' first
      | (with_reducible exact ih0 _ _ _ _ _)
      | (with_reducible exact ih1 _ _ _ _ _)
      | (with_reducible exact ih2 _ _ _ _ _ _ _)
      | (with_reducible exact ih3 _ _ _ _ _ _ _ _ _)
      | (with_reducible exact impl_IsLyndon.mono _ _)
      | (with_reducible exact impl_IsNecklace.mono _ _)
      | (with_reducible exact impl_LeastRotation.mono _ _)
      | (with_reducible exact impl_RootLength.mono _ _)
      | (with_reducible exact impl_RotateWord.mono _ _ _)
      | (with_reducible exact laws_tLess.mono _ _ _)
      | (with_reducible exact laws_tSame.mono _ _ _)
      | (with_reducible exact spec_DrawLeastRotation.mono _ _)
      | (with_reducible exact spec_LeastRotation.mono _ _)
      | (with_reducible exact LeO.refl _)
      | (with_reducible exact LeO.none _)
      | (with_reducible refine LeO.ite ?_ ?_)
      | (with_reducible refine LeO.bind ?_ (fun _ => ?_))
      | exact ih0 _ _ _ _ _
      | exact ih1 _ _ _ _ _
      | exact ih2 _ _ _ _ _ _ _
      | exact ih3 _ _ _ _ _ _ _ _ _
      | exact impl_IsLyndon.mono _ _
      | exact impl_IsNecklace.mono _ _
      | exact impl_LeastRotation.mono _ _
      | exact impl_RootLength.mono _ _
      | exact impl_RotateWord.mono _ _ _
      | exact laws_tLess.mono _ _ _
      | exact laws_tSame.mono _ _ _
      | exact spec_DrawLeastRotation.mono _ _
      | exact spec_LeastRotation.mono _ _
      | exact LeO.none _
      | refine LeO.ite ?_ ?_
      | refine LeO.bind ?_ (fun _ => ?_)
    · intro y0 y1 y2 y3 y4
      unfold laws_FnLeastRotations.j1
      repeat' first
      | (with_reducible exact ih0 _ _ _ _ _)
      | (with_reducible exact ih1 _ _ _ _ _)
      | (with_reducible exact ih2 _ _ _ _ _ _ _)
      | (with_reducible exact ih3 _ _ _ _ _ _ _ _ _)
      | (with_reducible exact impl_IsLyndon.mono _ _)
      | (with_reducible exact impl_IsNecklace.mono _ _)
      | (with_reducible exact impl_LeastRotation.mono _ _)
      | (with_reducible exact impl_RootLength.mono _ _)
      | (with_reducible exact impl_RotateWord.mono _ _ _)
      | (with_reducible exact laws_tLess.mono _ _ _)
      | (with_reducible exact laws_tSame.mono _ _ _)
      | (with_reducible exact spec_DrawLeastRotation.mono _ _)
      | (with_reducible exact spec_LeastRotation.mono _ _)
      | (with_reducible exact LeO.refl _)
      | (with_reducible exact LeO.none _)
      | (with_reducible refine LeO.ite ?_ ?_)
      | (with_reducible refine LeO.bind ?_ (fun _ => ?_))
      | exact ih0 _ _ _ _ _
      | exact ih1 _ _ _ _ _
      | exact ih2 _ _ _ _ _ _ _
      | exact ih3 _ _ _ _ _ _ _ _ _
      | exact impl_IsLyndon.mono _ _
      | exact impl_IsNecklace.mono _ _
      | exact impl_LeastRotation.mono _ _
      | exact impl_RootLength.mono _ _
      | exact impl_RotateWord.mono _ _ _
      | exact laws_tLess.mono _ _ _
      | exact laws_tSame.mono _ _ _
      | exact spec_DrawLeastRotation.mono _ _
      | exact spec_LeastRotation.mono _ _
      | exact LeO.none _
      | refine LeO.ite ?_ ?_
      | refine LeO.bind ?_ (fun _ => ?_)
    · intro y0 y1 y2 y3 y4 y5 y6
      unfold laws_FnLeastRotations.l0
      repeat' first
      | (with_reducible exact ih0 _ _ _ _ _)
      | (with_reducible exact ih1 _ _ _ _ _)
      | (with_reducible exact ih2 _ _ _ _ _ _ _)
      | (with_reducible exact ih3 _ _ _ _ _ _ _ _ _)
      | (with_reducible exact impl_IsLyndon.mono _ _)
      | (with_reducible exact impl_IsNecklace.mono _ _)
      | (with_reducible exact impl_LeastRotation.mono _ _)
      | (with_reducible exact impl_RootLength.mono _ _)
      | (with_reducible exact impl_RotateWord.mono _ _ _)
      | (with_reducible exact laws_tLess.mono _ _ _)
      | (with_reducible exact laws_tSame.mono _ _ _)
      | (with_reducible exact spec_DrawLeastRotation.mono _ _)
      | (with_reducible exact spec_LeastRotation.mono _ _)
      | (with_reducible exact LeO.refl _)
      | (with_reducible exact LeO.none _)
      | (with_reducible refine LeO.ite ?_ ?_)
      | (with_reducible refine LeO.bind ?_ (fun _ => ?_))
      | exact ih0 _ _ _ _ _
      | exact ih1 _ _ _ _ _
      | exact ih2 _ _ _ _ _ _ _
      | exact ih3 _ _ _ _ _ _ _ _ _
      | exact impl_IsLyndon.mono _ _
      | exact impl_IsNecklace.mono _ _
      | exact impl_LeastRotation.mono _ _
      | exact impl_RootLength.mono _ _
      | exact impl_RotateWord.mono _ _ _
      | exact laws_tLess.mono _ _ _
      | exact laws_tSame.mono _ _ _
      | exact spec_DrawLeastRotation.mono _ _
      | exact spec_LeastRotation.mono _ _
      | exact LeO.none _
      | refine LeO.ite ?_ ?_
      | refine LeO.bind ?_ (fun _ => ?_)
    · intro y0 y1 y2 y3 y4 y5 y6 y7 y8
      unfold laws_FnLeastRotations.j3
      repeat' first
      | (with_reducible exact ih0 _ _ _ _ _)
      | (with_reducible exact ih1 _ _ _ _ _)
      | (with_reducible exact ih2 _ _ _ _ _ _ _)
      | (with_reducible exact ih3 _ _ _ _ _ _ _ _ _)
      | (with_reducible exact impl_IsLyndon.mono _ _)
      | (with_reducible exact impl_IsNecklace.mono _ _)
      | (with_reducible exact impl_LeastRotation.mono _ _)
      | (with_reducible exact impl_RootLength.mono _ _)
      | (with_reducible exact impl_RotateWord.mono _ _ _)
      | (with_reducible exact laws_tLess.mono _ _ _)
      | (with_reducible exact laws_tSame.mono _ _ _)
      | (with_reducible exact spec_DrawLeastRotation.mono _ _)
      | (with_reducible exact spec_LeastRotation.mono _ _)
      | (with_reducible exact LeO.refl _)
      | (with_reducible exact LeO.none _)
      | (with_reducible refine LeO.ite ?_ ?_)
      | (with_reducible refine LeO.bind ?_ (fun _ => ?_))
      | exact ih0 _ _ _ _ _
      | exact ih1 _ _ _ _ _
      | exact ih2 _ _ _ _ _ _ _
      | exact ih3 _ _ _ _ _ _ _ _ _
      | exact impl_IsLyndon.mono _ _
      | exact impl_IsNecklace.mono _ _
      | exact impl_LeastRotation.mono _ _
      | exact impl_RootLength.mono _ _
      | exact impl_RotateWord.mono _ _ _
      | exact laws_tLess.mono _ _ _
      | exact laws_tSame.mono _ _ _
      | exact spec_DrawLeastRotation.mono _ _
      | exact spec_LeastRotation.mono _ _
      | exact LeO.none _
      | refine LeO.ite ?_ ?_
      | refine LeO.bind ?_ (fun _ => ?_)
theorem laws_FnLeastRotations.mono : ∀ a0 a1 k, LeO (laws_FnLeastRotations.f k a0 a1) (laws_FnLeastRotations.f (k + 1) a0 a1) := by
  intro a0 a1 k
  obtain ⟨ih0, ih1, ih2, ih3⟩ := laws_FnLeastRotations.mono_l k
  unfold laws_FnLeastRotations.f
  repeat' first
      | (with_reducible exact ih0 _ _ _ _ _)
      | (with_reducible exact ih1 _ _ _ _ _)
      | (with_reducible exact ih2 _ _ _ _ _ _ _)
      | (with_reducible exact ih3 _ _ _ _ _ _ _ _ _)
      | (with_reducible exact impl_IsLyndon.mono _ _)
      | (with_reducible exact impl_IsNecklace.mono _ _)
      | (with_reducible exact impl_LeastRotation.mono _ _)
      | (with_reducible exact impl_RootLength.mono _ _)
      | (with_reducible exact impl_RotateWord.mono _ _ _)
      | (with_reducible exact laws_tLess.mono _ _ _)
      | (with_reducible exact laws_tSame.mono _ _ _)
      | (with_reducible exact spec_DrawLeastRotation.mono _ _)
      | (with_reducible exact spec_LeastRotation.mono _ _)
      | (with_reducible exact LeO.refl _)
      | (with_reducible exact LeO.none _)
      | (with_reducible refine LeO.ite ?_ ?_)
      | (with_reducible refine LeO.bind ?_ (fun _ => ?_))
      | exact ih0 _ _ _ _ _
      | exact ih1 _ _ _ _ _
      | exact ih2 _ _ _ _ _ _ _
      | exact ih3 _ _ _ _ _ _ _ _ _
      | exact impl_IsLyndon.mono _ _
      | exact impl_IsNecklace.mono _ _
      | exact impl_LeastRotation.mono _ _
      | exact impl_RootLength.mono _ _
      | exact impl_RotateWord.mono _ _ _
      | exact laws_tLess.mono _ _ _
      | exact laws_tSame.mono _ _ _
      | exact spec_DrawLeastRotation.mono _ _
      | exact spec_LeastRotation.mono _ _
      | exact LeO.none _
      | refine LeO.ite ?_ ?_
      | refine LeO.bind ?_ (fun _ => ?_)
set_option maxHeartbeats 8000000 in
set_option maxRecDepth 100000 in
theorem laws_FnLeastRotations.calls (k : Nat) (A0 : Option Addr) (c0 : Nat) (l0 : List Int) (A1 : Option Addr) (c1 : Nat) (l1 : List Int) (r : Bool) (w : World) (hr0 : Kd.C (Kd.int .u8) w A0 l0.length l0) (hc0 : l0.length ≤ c0) (hr1 : Kd.C (Kd.int .u8) w A1 l1.length l1) (hc1 : l1.length ≤ c1) (h : laws_FnLeastRotations.f k l0 l1 = some r) :
    Calls Try.prog 12 #[.slice A0 l0.length c0, .slice A1 l1.length c1] w fun e w' => e = .returned (.bool r) ∧ Below w.heap.size w w' := by
  have HR0 := Aside0.mk hr0
  have HC0 := Aside0.mk hc0
  clear hr0 hc0
  have HR1 := Aside0.mk hr1
  have HC1 := Aside0.mk hc1
  clear hr1 hc1
  have HB := Aside0.mk (Below.refl w.heap.size w)
  have H : ((laws_big.f l0 l1).bind fun t262 => (if t262 = true then (some true) else ((spec_DrawLeastRotation.f k l0).bind fun t263 => ((impl_LeastRotation.f k t263).bind fun bt266 => ((spec_LeastRotation.f k t263).bind fun bt271 => (if (bt266.2.2 != bt271.2.2) = true then (laws_FnLeastRotations.j0 k t263 bt266.1 bt266.2.1 bt271.2.2 true) else (if bt266.1 = bt271.1 then ((laws_tSame.f k bt266.2.1 bt271.2.1).bind fun t276 => (laws_FnLeastRotations.j0 k t263 bt266.1 bt266.2.1 bt271.2.2 (!t276))) else (laws_FnLeastRotations.j0 k t263 bt266.1 bt266.2.1 bt271.2.2 true)))))))) = some r := h
  clear h
  replace H := Option.bind_eq_some_iff.mp H
  obtain ⟨t262, A30, H⟩ := H
  replace H : (if t262 = true then (some true) else ((spec_DrawLeastRotation.f k l0).bind fun t263 => ((impl_LeastRotation.f k t263).bind fun bt266 => ((spec_LeastRotation.f k t263).bind fun bt271 => (if (bt266.2.2 != bt271.2.2) = true then (laws_FnLeastRotations.j0 k t263 bt266.1 bt266.2.1 bt271.2.2 true) else (if bt266.1 = bt271.1 then ((laws_tSame.f k bt266.2.1 bt271.2.1).bind fun t276 => (laws_FnLeastRotations.j0 k t263 bt266.1 bt266.2.1 bt271.2.2 (!t276))) else (laws_FnLeastRotations.j0 k t263 bt266.1 bt266.2.1 bt271.2.2 true))))))) = some r := H
  have A3 := Aside0.mk A30
  clear A30
  by_cases c4 : t262 = true
  · subst c4
    have H1 : (some true) = some r := by rw [if_pos rfl] at H; exact H
    clear H
    have H := H1
    clear H1
    obtain rfl := Option.some.inj H
    go_enter Try.func12, Try.ntmps12
    go_wp2_with (first | ((with_reducible refine gate_callee (f := 15) rfl ?_); refine goesL_ (some 31) rfl rfl Try.func15 (by kernel_rfl) rfl #[.slice A0 l0.length c0, .slice A1 l1.length c1] rfl (by (try simp only [List.map_toArray, List.map_cons, List.map_nil]); first | done | rfl | (simp only [List.length_drop, List.length_take]; rfl)) ?_; (with_reducible refine (laws_big.calls _ _ l0 _ _ l1 true _ ?side1 ?side2 ?side3 ?side4 A3.out).mono ?_); (case side1 => repeat (first | exact HR0.out | (with_reducible refine Kd.C_alloc ?_ _) | (with_reducible refine Kd.C_drewN ?_ _) | (with_reducible refine Kd.C_drew ?_))); (case side2 => exact HC0.out); (case side3 => repeat (first | exact HR1.out | (with_reducible refine Kd.C_alloc ?_ _) | (with_reducible refine Kd.C_drewN ?_ _) | (with_reducible refine Kd.C_drew ?_))); (case side4 => exact HC1.out); rintro e w' ⟨rfl, ⟨nd, rfl⟩⟩; refine ⟨_, rfl, ?_⟩))
    go_ret
    exact ⟨by first | rfl | (simp [errW_none, errW_some] <;> rfl) | (simp [*, errW_none, errW_some] <;> rfl), by repeat (first | (with_reducible first | exact HB.out | apply below_alloc | apply pw_below_drewN | apply below_drew1) | exact HB.out)⟩
  · replace c4 := Bool.eq_false_iff.mpr c4
    subst c4
    have H1 : ((spec_DrawLeastRotation.f k l0).bind fun t263 => ((impl_LeastRotation.f k t263).bind fun bt266 => ((spec_LeastRotation.f k t263).bind fun bt271 => (if (bt266.2.2 != bt271.2.2) = true then (laws_FnLeastRotations.j0 k t263 bt266.1 bt266.2.1 bt271.2.2 true) else (if bt266.1 = bt271.1 then ((laws_tSame.f k bt266.2.1 bt271.2.1).bind fun t276 => (laws_FnLeastRotations.j0 k t263 bt266.1 bt266.2.1 bt271.2.2 (!t276))) else (laws_FnLeastRotations.j0 k t263 bt266.1 bt266.2.1 bt271.2.2 true)))))) = some r := by rw [if_neg (show ¬ (false = true) by decide)] at H; exact H
    clear H
    have H := H1
    clear H1
    replace H := Option.bind_eq_some_iff.mp H
    obtain ⟨t263, A50, H⟩ := H
    replace H : ((impl_LeastRotation.f k t263).bind fun bt266 => ((spec_LeastRotation.f k t263).bind fun bt271 => (if (bt266.2.2 != bt271.2.2) = true then (laws_FnLeastRotations.j0 k t263 bt266.1 bt266.2.1 bt271.2.2 true) else (if bt266.1 = bt271.1 then ((laws_tSame.f k bt266.2.1 bt271.2.1).bind fun t276 => (laws_FnLeastRotations.j0 k t263 bt266.1 bt266.2.1 bt271.2.2 (!t276))) else (laws_FnLeastRotations.j0 k t263 bt266.1 bt266.2.1 bt271.2.2 true))))) = some r := H
    have A5 := Aside0.mk A50
    clear A50
    replace H := Option.bind_eq_some_iff.mp H
    obtain ⟨⟨t266, t267, t268⟩, A60, H⟩ := H
    replace H : ((spec_LeastRotation.f k t263).bind fun bt271 => (if (t268 != bt271.2.2) = true then (laws_FnLeastRotations.j0 k t263 t266 t267 bt271.2.2 true) else (if t266 = bt271.1 then ((laws_tSame.f k t267 bt271.2.1).bind fun t276 => (laws_FnLeastRotations.j0 k t263 t266 t267 bt271.2.2 (!t276))) else (laws_FnLeastRotations.j0 k t263 t266 t267 bt271.2.2 true)))) = some r := H
    have A6 := Aside0.mk A60
    clear A60
    replace H := Option.bind_eq_some_iff.mp H
    obtain ⟨⟨t271, t272, t273⟩, A70, H⟩ := H
    replace H : (if (t268 != t273) = true then (laws_FnLeastRotations.j0 k t263 t266 t267 t273 true) else (if t266 = t271 then ((laws_tSame.f k t267 t272).bind fun t276 => (laws_FnLeastRotations.j0 k t263 t266 t267 t273 (!t276))) else (laws_FnLeastRotations.j0 k t263 t266 t267 t273 true))) = some r := H
    have A7 := Aside0.mk A70
    clear A70
    have HC8 := Aside0.mk H
    clear H
    go_enter Try.func12, Try.ntmps12
    go_upto_region 6 with (first | ((with_reducible refine gate_callee (f := 15) rfl ?_); refine goesL_ (some 31) rfl rfl Try.func15 (by kernel_rfl) rfl #[.slice A0 l0.length c0, .slice A1 l1.length c1] rfl (by (try simp only [List.map_toArray, List.map_cons, List.map_nil]); first | done | rfl | (simp only [List.length_drop, List.length_take]; rfl)) ?_; (with_reducible refine (laws_big.calls _ _ l0 _ _ l1 false _ ?side1 ?side2 ?side3 ?side4 A3.out).mono ?_); (case side1 => repeat (first | exact HR0.out | (with_reducible refine Kd.C_alloc ?_ _) | (with_reducible refine Kd.C_drewN ?_ _) | (with_reducible refine Kd.C_drew ?_))); (case side2 => exact HC0.out); (case side3 => repeat (first | exact HR1.out | (with_reducible refine Kd.C_alloc ?_ _) | (with_reducible refine Kd.C_drewN ?_ _) | (with_reducible refine Kd.C_drew ?_))); (case side4 => exact HC1.out); rintro e w' ⟨rfl, ⟨nd, rfl⟩⟩; refine ⟨_, rfl, ?_⟩) | ((with_reducible refine gate_callee (f := 65) rfl ?_); refine goesL_ (some 33) rfl rfl Try.func65 (by kernel_rfl) rfl #[.slice A0 l0.length c0] rfl (by (try simp only [List.map_toArray, List.map_cons, List.map_nil]); first | done | rfl | (simp only [List.length_drop, List.length_take]; rfl)) ?_; (with_reducible refine (spec_DrawLeastRotation.calls k _ _ l0 t263 _ ?side1 ?side2 A5.out).mono ?_); (case side1 => repeat (first | exact HR0.out | (with_reducible refine Kd.C_alloc ?_ _) | (with_reducible refine Kd.C_drewN ?_ _) | (with_reducible refine Kd.C_drew ?_))); (case side2 => exact HC0.out); rintro e w9 ⟨v264, rfl, ho0, hb⟩; refine ⟨_, rfl, ?_⟩; have n0_ := Aside0.mk (Kd.R_lower ho0 (below_size (by repeat (first | (with_reducible first | exact HB.out | apply below_alloc | apply pw_below_drewN | apply below_drew1) | exact HB.out)))); have n1_ := Aside0.mk (below_step (by repeat (first | (with_reducible first | exact HB.out | apply below_alloc | apply pw_below_drewN | apply below_drew1) | exact HB.out)) hb); clear HB; have HO265 := n0_; have HB := n1_; clear n0_ n1_; (try clear hb); (try clear hb2); (try clear hk); (try clear hi); (try clear ho0); obtain ⟨Ao10, co10, eo10⟩ := Kd.R_slice HO265.out; subst eo10) | ((with_reducible refine gate_callee (f := 66) rfl ?_); refine goesL_ (some 36) rfl rfl Try.func66 (by kernel_rfl) rfl #[.slice Ao10 t263.length co10] rfl (by (try simp only [List.map_toArray, List.map_cons, List.map_nil]); first | done | rfl | (simp only [List.length_drop, List.length_take]; rfl)) ?_; (with_reducible refine (impl_LeastRotation.calls k _ _ t263 t266 t267 t268 _ ?side1 ?side2 A6.out).mono ?_); (case side1 => repeat (first | exact (Kd.R_reads' HO265.out).2.2 | (with_reducible refine Kd.C_alloc ?_ _) | (with_reducible refine Kd.C_drewN ?_ _) | (with_reducible refine Kd.C_drew ?_))); (case side2 => exact (Kd.R_reads' HO265.out).2.1); rintro e w11 ⟨v269, rfl, ho0, hb⟩; refine ⟨_, rfl, ?_⟩; have n0_ := Aside0.mk (Kd.R_elder' (by (with_reducible repeat (first | apply Kd.R_alloc | apply Kd.R_drewN | apply Kd.R_drew)); (first | exact HO265.out | (have hz_ := HO265.out; (try simp only [ob_] at hz_); (try simp only [ob_]); exact hz_))) (Kd.R_base ho0) hb); have n1_ := Aside0.mk (Kd.R_lower (Kd.R_new' ho0 (Kd.R_lt (by (with_reducible repeat (first | apply Kd.R_alloc | apply Kd.R_drewN | apply Kd.R_drew)); (first | exact HO265.out | (have hz_ := HO265.out; (try simp only [ob_] at hz_); (try simp only [ob_]); exact hz_))))) (below_size (by repeat (first | (with_reducible first | exact HB.out | apply below_alloc | apply pw_below_drewN | apply below_drew1) | exact HB.out)))); have n2_ := Aside0.mk (below_step (by repeat (first | (with_reducible first | exact HB.out | apply below_alloc | apply pw_below_drewN | apply below_drew1) | exact HB.out)) hb); clear HO265; clear HB; have HO265 := n0_; have HO270 := n1_; have HB := n2_; clear n0_ n1_ n2_; (try clear hb); (try clear hb2); (try clear hk); (try clear hi); (try clear ho0)) | ((with_reducible refine gate_callee (f := 67) rfl ?_); refine goesL_ (some 42) rfl rfl Try.func67 (by kernel_rfl) rfl #[.slice Ao10 t263.length co10] rfl (by (try simp only [List.map_toArray, List.map_cons, List.map_nil]); first | done | rfl | (simp only [List.length_drop, List.length_take]; rfl)) ?_; (with_reducible refine (spec_LeastRotation.calls k _ _ t263 t271 t272 t273 _ ?side1 ?side2 A7.out).mono ?_); (case side1 => repeat (first | exact (Kd.R_reads' HO265.out).2.2 | (with_reducible refine Kd.C_alloc ?_ _) | (with_reducible refine Kd.C_drewN ?_ _) | (with_reducible refine Kd.C_drew ?_))); (case side2 => exact (Kd.R_reads' HO265.out).2.1); rintro e w12 ⟨v274, rfl, ho0, hb⟩; refine ⟨_, rfl, ?_⟩; have n0_ := Aside0.mk (Kd.R_elder' (by (with_reducible repeat (first | apply Kd.R_alloc | apply Kd.R_drewN | apply Kd.R_drew)); (first | exact HO265.out | (have hz_ := HO265.out; (try simp only [ob_] at hz_); (try simp only [ob_]); exact hz_))) (Kd.R_base ho0) hb); have n1_ := Aside0.mk (Kd.R_elder' (by (with_reducible repeat (first | apply Kd.R_alloc | apply Kd.R_drewN | apply Kd.R_drew)); (first | exact HO270.out | (have hz_ := HO270.out; (try simp only [ob_] at hz_); (try simp only [ob_]); exact hz_))) (Kd.R_base ho0) hb); have n2_ := Aside0.mk (Kd.R_lower (Kd.R_new' (Kd.R_new' ho0 (Kd.R_lt (by (with_reducible repeat (first | apply Kd.R_alloc | apply Kd.R_drewN | apply Kd.R_drew)); (first | exact HO265.out | (have hz_ := HO265.out; (try simp only [ob_] at hz_); (try simp only [ob_]); exact hz_))))) (Kd.R_lt (by (with_reducible repeat (first | apply Kd.R_alloc | apply Kd.R_drewN | apply Kd.R_drew)); (first | exact HO270.out | (have hz_ := HO270.out; (try simp only [ob_] at hz_); (try simp only [ob_]); exact hz_))))) (below_size (by repeat (first | (with_reducible first | exact HB.out | apply below_alloc | apply pw_below_drewN | apply below_drew1) | exact HB.out)))); have n3_ := Aside0.mk (below_step (by repeat (first | (with_reducible first | exact HB.out | apply below_alloc | apply pw_below_drewN | apply below_drew1) | exact HB.out)) hb); clear HO265; clear HO270; clear HB; have HO265 := n0_; have HO270 := n1_; have HO275 := n2_; have HB := n3_; clear n0_ n1_ n2_ n3_; (try clear hb); (try clear hb2); (try clear hk); (try clear hi); (try clear ho0)))
    (try simp only [Act.put, List.setIfInBounds_toArray, List.set_cons_zero, List.set_cons_succ])
    go_cut [59] (fun v59 wc => ∃ (kq : Nat) (x59_7 : Bool), v59 = .bool x59_7 ∧ Aside0 (laws_FnLeastRotations.j0 kq t263 t266 t267 t273 x59_7 = some r) ∧ Aside0 (kq ≤ k) ∧ Aside0 (Kd.R (Kd.int .i64) 3 wc w.heap.size (fun k_ => some k_ ≠ (v269 : Value).ownBlock) (.slice Ao10 t263.length co10) t263) ∧ Aside0 (Kd.R (Kd.int .i64) 3 wc w.heap.size (fun k_ => some k_ ≠ ((.slice Ao10 t263.length co10) : Value).ownBlock) v269 t267) ∧ Aside0 (Below w.heap.size w wc))
    case first =>
      have H := HC8.out
      clear HC8
      by_cases c13 : (t268 != t273) = true
      · rw [if_pos c13] at H
        have c13b0 : (t268 != t273) = true := c13
        (try (have c13b1 : decide (t268 = t273) = false := by simpa using c13))
        (try (have c13b2 : (t268 == t273) = false := by simpa using c13))
        (try (have c13b3 : ¬ (t268 = t273) := by simpa using c13))
        clear c13
        (first | rw [c13b0] | (simp only [i64_w, i32_w]; rw [c13b0]) | skip)
        have H' := Aside0.mk H
        clear H
        go_wp2
        go_meet
        case rel => exact ⟨_, (true), (by first | rfl | (simp; done) | (simp [*]; done)), H', ⟨by first | omega | exact Nat.le_refl _⟩, ⟨by (with_reducible repeat (first | apply Kd.R_alloc | apply Kd.R_drewN | apply Kd.R_drew)); (first | exact Kd.R_mono HO265.out (fun _ hk => hk.1.2) | (have hz_ := Kd.R_mono HO265.out (fun _ hk => hk.1.2); (try simp only [ob_] at hz_); (try simp only [ob_]); exact hz_))⟩, ⟨by (with_reducible repeat (first | apply Kd.R_alloc | apply Kd.R_drewN | apply Kd.R_drew)); (first | exact Kd.R_mono HO270.out (fun _ hk => hk.1.2) | (have hz_ := Kd.R_mono HO270.out (fun _ hk => hk.1.2); (try simp only [ob_] at hz_); (try simp only [ob_]); exact hz_))⟩, ⟨by repeat (first | (with_reducible first | exact HB.out | apply below_alloc | apply pw_below_drewN | apply below_drew1) | exact HB.out)⟩⟩
      · rw [if_neg c13] at H
        have c13b0 : (t268 != t273) = false := by simpa using c13
        (try (have c13b1 : decide (t268 = t273) = true := by simpa using c13))
        (try (have c13b2 : (t268 == t273) = true := by simpa using c13))
        clear c13
        (first | rw [c13b0] | (simp only [i64_w, i32_w]; rw [c13b0]) | skip)
        by_cases c14 : t266 = t271
        · rw [if_pos c14] at H
          have c14b0 : (t266 == t271) = true := beq_iff_eq.mpr c14
          have c14b1 : (t266 != t271) = false := bne_eq_false_iff_eq.mpr c14
          clear c14
          replace H := Option.bind_eq_some_iff.mp H
          obtain ⟨t276, A150, H⟩ := H
          replace H : (laws_FnLeastRotations.j0 k t263 t266 t267 t273 (!t276)) = some r := H
          have A15 := Aside0.mk A150
          clear A150
          have H' := Aside0.mk H
          clear H
          obtain ⟨Ao16, co16, eo16⟩ := Kd.R_slice HO270.out
          subst eo16
          obtain ⟨Ao17, co17, eo17⟩ := Kd.R_slice HO275.out
          subst eo17
          go_wp2_with (first | (go_at_call 30; (with_reducible refine (laws_tSame.calls k _ _ t267 _ _ t272 t276 _ ?side1 ?side2 ?side3 ?side4 A15.out).mono ?_); (case side1 => repeat (first | exact (Kd.R_reads' HO270.out).2.2 | (with_reducible refine Kd.C_alloc ?_ _) | (with_reducible refine Kd.C_drewN ?_ _) | (with_reducible refine Kd.C_drew ?_))); (case side2 => exact (Kd.R_reads' HO270.out).2.1); (case side3 => repeat (first | exact (Kd.R_reads' HO275.out).2.2 | (with_reducible refine Kd.C_alloc ?_ _) | (with_reducible refine Kd.C_drewN ?_ _) | (with_reducible refine Kd.C_drew ?_))); (case side4 => exact (Kd.R_reads' HO275.out).2.1); rintro e w' ⟨rfl, ⟨nd, rfl⟩⟩))
          go_meet
          case rel => exact ⟨_, (!t276), (by first | rfl | (simp; done) | (simp [*]; done)), H', ⟨by first | omega | exact Nat.le_refl _⟩, ⟨by (with_reducible repeat (first | apply Kd.R_alloc | apply Kd.R_drewN | apply Kd.R_drew)); (first | exact Kd.R_mono HO265.out (fun _ hk => hk.1.2) | (have hz_ := Kd.R_mono HO265.out (fun _ hk => hk.1.2); (try simp only [ob_] at hz_); (try simp only [ob_]); exact hz_))⟩, ⟨by (with_reducible repeat (first | apply Kd.R_alloc | apply Kd.R_drewN | apply Kd.R_drew)); (first | exact Kd.R_mono HO270.out (fun _ hk => hk.1.2) | (have hz_ := Kd.R_mono HO270.out (fun _ hk => hk.1.2); (try simp only [ob_] at hz_); (try simp only [ob_]); exact hz_))⟩, ⟨by repeat (first | (with_reducible first | exact HB.out | apply below_alloc | apply pw_below_drewN | apply below_drew1) | exact HB.out)⟩⟩
        · rw [if_neg c14] at H
          have c14b0 : (t266 == t271) = false := beq_eq_false_iff_ne.mpr c14
          have c14b1 : (t266 != t271) = true := bne_iff_ne.mpr c14
          have H' := Aside0.mk H
          clear H
          go_wp2
          go_meet
          case rel => exact ⟨_, (true), (by first | rfl | (simp; done) | (simp [*]; done)), H', ⟨by first | omega | exact Nat.le_refl _⟩, ⟨by (with_reducible repeat (first | apply Kd.R_alloc | apply Kd.R_drewN | apply Kd.R_drew)); (first | exact Kd.R_mono HO265.out (fun _ hk => hk.1.2) | (have hz_ := Kd.R_mono HO265.out (fun _ hk => hk.1.2); (try simp only [ob_] at hz_); (try simp only [ob_]); exact hz_))⟩, ⟨by (with_reducible repeat (first | apply Kd.R_alloc | apply Kd.R_drewN | apply Kd.R_drew)); (first | exact Kd.R_mono HO270.out (fun _ hk => hk.1.2) | (have hz_ := Kd.R_mono HO270.out (fun _ hk => hk.1.2); (try simp only [ob_] at hz_); (try simp only [ob_]); exact hz_))⟩, ⟨by repeat (first | (with_reducible first | exact HB.out | apply below_alloc | apply pw_below_drewN | apply below_drew1) | exact HB.out)⟩⟩
    case rest =>
      clear HC8
      try clear c1
      try clear p2
      try clear c4
      try clear c6
      try clear c12
      try clear c13
      try clear c13b0
      try clear c13b1
      try clear c13b2
      try clear c14
      try clear c14b0
      try clear c14b1
      try clear c15
      obtain ⟨kq, x59_7, rfl, HA, HJ7, HO_5, HO_7, HB⟩ := hcut
      cases kq with
      | zero => exact absurd HA.out (by simp [laws_FnLeastRotations.j0])
      | succ kj7 =>
        have H := HA.out
        clear HA
        simp only [laws_FnLeastRotations.j0] at H
        by_cases c18 : x59_7 = true
        · subst c18
          have H1 : (some false) = some r := by rw [if_pos rfl] at H; exact H
          clear H
          have H := H1
          clear H1
          obtain rfl := Option.some.inj H
          go_wp2
          go_ret
          exact ⟨by first | rfl | (simp [errW_none, errW_some] <;> rfl) | (simp [*, errW_none, errW_some] <;> rfl), by repeat (first | (with_reducible first | exact HB.out | apply below_alloc | apply pw_below_drewN | apply below_drew1) | exact HB.out)⟩
        · replace c18 := Bool.eq_false_iff.mpr c18
          subst c18
          have H1 : (if t273 = true then ((impl_RotateWord.f kj7 t263 t266).bind fun bt277 => ((impl_IsNecklace.f kj7 t267).bind fun bt281 => ((impl_RootLength.f kj7 t263).bind fun bt283 => ((impl_IsNecklace.f kj7 t263).bind fun bt285 => (if bt277.2 = true then (if bt281.2 = true then (if bt283.2 = true then (if bt285.2 = true then (if bt281.1 = true then ((laws_tSame.f kj7 bt277.1 t267).bind fun t287 => (if t287 = true then ((laws_tSame.f kj7 t263 t267).bind fun t288 => (if (bt285.1 != t288) = true then (laws_FnLeastRotations.j1 kj7 t263 t267 bt283.1 bt285.1 true) else (if bt283.1 = 0 then (none) else (if ((t263.length : Int) % bt283.1) = 0 then (laws_FnLeastRotations.j1 kj7 t263 t267 bt283.1 bt285.1 (decide (t266 ≥ bt283.1))) else (laws_FnLeastRotations.j1 kj7 t263 t267 bt283.1 bt285.1 true))))) else (laws_FnLeastRotations.j1 kj7 t263 t267 bt283.1 bt285.1 true))) else (laws_FnLeastRotations.j1 kj7 t263 t267 bt283.1 bt285.1 true)) else (laws_FnLeastRotations.j1 kj7 t263 t267 bt283.1 bt285.1 true)) else (laws_FnLeastRotations.j1 kj7 t263 t267 bt283.1 bt285.1 true)) else (laws_FnLeastRotations.j1 kj7 t263 t267 bt283.1 bt285.1 true)) else (laws_FnLeastRotations.j1 kj7 t263 t267 bt283.1 bt285.1 true)))))) else (some true)) = some r := by rw [if_neg (show ¬ (false = true) by decide)] at H; exact H
          clear H
          have H := H1
          clear H1
          by_cases c19 : t273 = true
          · subst c19
            have H1 : ((impl_RotateWord.f kj7 t263 t266).bind fun bt277 => ((impl_IsNecklace.f kj7 t267).bind fun bt281 => ((impl_RootLength.f kj7 t263).bind fun bt283 => ((impl_IsNecklace.f kj7 t263).bind fun bt285 => (if bt277.2 = true then (if bt281.2 = true then (if bt283.2 = true then (if bt285.2 = true then (if bt281.1 = true then ((laws_tSame.f kj7 bt277.1 t267).bind fun t287 => (if t287 = true then ((laws_tSame.f kj7 t263 t267).bind fun t288 => (if (bt285.1 != t288) = true then (laws_FnLeastRotations.j1 kj7 t263 t267 bt283.1 bt285.1 true) else (if bt283.1 = 0 then (none) else (if ((t263.length : Int) % bt283.1) = 0 then (laws_FnLeastRotations.j1 kj7 t263 t267 bt283.1 bt285.1 (decide (t266 ≥ bt283.1))) else (laws_FnLeastRotations.j1 kj7 t263 t267 bt283.1 bt285.1 true))))) else (laws_FnLeastRotations.j1 kj7 t263 t267 bt283.1 bt285.1 true))) else (laws_FnLeastRotations.j1 kj7 t263 t267 bt283.1 bt285.1 true)) else (laws_FnLeastRotations.j1 kj7 t263 t267 bt283.1 bt285.1 true)) else (laws_FnLeastRotations.j1 kj7 t263 t267 bt283.1 bt285.1 true)) else (laws_FnLeastRotations.j1 kj7 t263 t267 bt283.1 bt285.1 true)) else (laws_FnLeastRotations.j1 kj7 t263 t267 bt283.1 bt285.1 true)))))) = some r := by rw [if_pos rfl] at H; exact H
            clear H
            have H := H1
            clear H1
            replace H := Option.bind_eq_some_iff.mp H
            obtain ⟨⟨t277, t278⟩, A200, H⟩ := H
            replace H : ((impl_IsNecklace.f kj7 t267).bind fun bt281 => ((impl_RootLength.f kj7 t263).bind fun bt283 => ((impl_IsNecklace.f kj7 t263).bind fun bt285 => (if t278 = true then (if bt281.2 = true then (if bt283.2 = true then (if bt285.2 = true then (if bt281.1 = true then ((laws_tSame.f kj7 t277 t267).bind fun t287 => (if t287 = true then ((laws_tSame.f kj7 t263 t267).bind fun t288 => (if (bt285.1 != t288) = true then (laws_FnLeastRotations.j1 kj7 t263 t267 bt283.1 bt285.1 true) else (if bt283.1 = 0 then (none) else (if ((t263.length : Int) % bt283.1) = 0 then (laws_FnLeastRotations.j1 kj7 t263 t267 bt283.1 bt285.1 (decide (t266 ≥ bt283.1))) else (laws_FnLeastRotations.j1 kj7 t263 t267 bt283.1 bt285.1 true))))) else (laws_FnLeastRotations.j1 kj7 t263 t267 bt283.1 bt285.1 true))) else (laws_FnLeastRotations.j1 kj7 t263 t267 bt283.1 bt285.1 true)) else (laws_FnLeastRotations.j1 kj7 t263 t267 bt283.1 bt285.1 true)) else (laws_FnLeastRotations.j1 kj7 t263 t267 bt283.1 bt285.1 true)) else (laws_FnLeastRotations.j1 kj7 t263 t267 bt283.1 bt285.1 true)) else (laws_FnLeastRotations.j1 kj7 t263 t267 bt283.1 bt285.1 true))))) = some r := H
            have A20 := Aside0.mk A200
            clear A200
            replace H := Option.bind_eq_some_iff.mp H
            obtain ⟨⟨t281, t282⟩, A210, H⟩ := H
            replace H : ((impl_RootLength.f kj7 t263).bind fun bt283 => ((impl_IsNecklace.f kj7 t263).bind fun bt285 => (if t278 = true then (if t282 = true then (if bt283.2 = true then (if bt285.2 = true then (if t281 = true then ((laws_tSame.f kj7 t277 t267).bind fun t287 => (if t287 = true then ((laws_tSame.f kj7 t263 t267).bind fun t288 => (if (bt285.1 != t288) = true then (laws_FnLeastRotations.j1 kj7 t263 t267 bt283.1 bt285.1 true) else (if bt283.1 = 0 then (none) else (if ((t263.length : Int) % bt283.1) = 0 then (laws_FnLeastRotations.j1 kj7 t263 t267 bt283.1 bt285.1 (decide (t266 ≥ bt283.1))) else (laws_FnLeastRotations.j1 kj7 t263 t267 bt283.1 bt285.1 true))))) else (laws_FnLeastRotations.j1 kj7 t263 t267 bt283.1 bt285.1 true))) else (laws_FnLeastRotations.j1 kj7 t263 t267 bt283.1 bt285.1 true)) else (laws_FnLeastRotations.j1 kj7 t263 t267 bt283.1 bt285.1 true)) else (laws_FnLeastRotations.j1 kj7 t263 t267 bt283.1 bt285.1 true)) else (laws_FnLeastRotations.j1 kj7 t263 t267 bt283.1 bt285.1 true)) else (laws_FnLeastRotations.j1 kj7 t263 t267 bt283.1 bt285.1 true)))) = some r := H
            have A21 := Aside0.mk A210
            clear A210
            replace H := Option.bind_eq_some_iff.mp H
            obtain ⟨⟨t283, t284⟩, A220, H⟩ := H
            replace H : ((impl_IsNecklace.f kj7 t263).bind fun bt285 => (if t278 = true then (if t282 = true then (if t284 = true then (if bt285.2 = true then (if t281 = true then ((laws_tSame.f kj7 t277 t267).bind fun t287 => (if t287 = true then ((laws_tSame.f kj7 t263 t267).bind fun t288 => (if (bt285.1 != t288) = true then (laws_FnLeastRotations.j1 kj7 t263 t267 t283 bt285.1 true) else (if t283 = 0 then (none) else (if ((t263.length : Int) % t283) = 0 then (laws_FnLeastRotations.j1 kj7 t263 t267 t283 bt285.1 (decide (t266 ≥ t283))) else (laws_FnLeastRotations.j1 kj7 t263 t267 t283 bt285.1 true))))) else (laws_FnLeastRotations.j1 kj7 t263 t267 t283 bt285.1 true))) else (laws_FnLeastRotations.j1 kj7 t263 t267 t283 bt285.1 true)) else (laws_FnLeastRotations.j1 kj7 t263 t267 t283 bt285.1 true)) else (laws_FnLeastRotations.j1 kj7 t263 t267 t283 bt285.1 true)) else (laws_FnLeastRotations.j1 kj7 t263 t267 t283 bt285.1 true)) else (laws_FnLeastRotations.j1 kj7 t263 t267 t283 bt285.1 true))) = some r := H
            have A22 := Aside0.mk A220
            clear A220
            replace H := Option.bind_eq_some_iff.mp H
            obtain ⟨⟨t285, t286⟩, A230, H⟩ := H
            replace H : (if t278 = true then (if t282 = true then (if t284 = true then (if t286 = true then (if t281 = true then ((laws_tSame.f kj7 t277 t267).bind fun t287 => (if t287 = true then ((laws_tSame.f kj7 t263 t267).bind fun t288 => (if (t285 != t288) = true then (laws_FnLeastRotations.j1 kj7 t263 t267 t283 t285 true) else (if t283 = 0 then (none) else (if ((t263.length : Int) % t283) = 0 then (laws_FnLeastRotations.j1 kj7 t263 t267 t283 t285 (decide (t266 ≥ t283))) else (laws_FnLeastRotations.j1 kj7 t263 t267 t283 t285 true))))) else (laws_FnLeastRotations.j1 kj7 t263 t267 t283 t285 true))) else (laws_FnLeastRotations.j1 kj7 t263 t267 t283 t285 true)) else (laws_FnLeastRotations.j1 kj7 t263 t267 t283 t285 true)) else (laws_FnLeastRotations.j1 kj7 t263 t267 t283 t285 true)) else (laws_FnLeastRotations.j1 kj7 t263 t267 t283 t285 true)) else (laws_FnLeastRotations.j1 kj7 t263 t267 t283 t285 true)) = some r := H
            have A23 := Aside0.mk A230
            clear A230
            have HC24 := Aside0.mk H
            clear H
            go_upto_region 14 with (first | ((with_reducible refine gate_callee (f := 68) rfl ?_); refine goesL_ (some 65) rfl rfl Try.func68 (by kernel_rfl) rfl #[.slice Ao10 t263.length co10, .int .i64 t266] rfl (by (try simp only [List.map_toArray, List.map_cons, List.map_nil]); first | done | rfl | (simp only [List.length_drop, List.length_take]; rfl)) ?_; (with_reducible refine (impl_RotateWord.calls kj7 _ _ t263 t266 t277 t278 _ ?side1 ?side2 A20.out).mono ?_); (case side1 => repeat (first | exact (Kd.R_reads' HO_5.out).2.2 | (with_reducible refine Kd.C_alloc ?_ _) | (with_reducible refine Kd.C_drewN ?_ _) | (with_reducible refine Kd.C_drew ?_))); (case side2 => exact (Kd.R_reads' HO_5.out).2.1); rintro e w25 ⟨v279, rfl, ho0, hb⟩; refine ⟨_, rfl, ?_⟩; have n0_ := Aside0.mk (Kd.R_elder' (by (with_reducible repeat (first | apply Kd.R_alloc | apply Kd.R_drewN | apply Kd.R_drew)); (first | exact HO_5.out | (have hz_ := HO_5.out; (try simp only [ob_] at hz_); (try simp only [ob_]); exact hz_))) (Kd.R_base ho0) hb); have n1_ := Aside0.mk (Kd.R_elder' (by (with_reducible repeat (first | apply Kd.R_alloc | apply Kd.R_drewN | apply Kd.R_drew)); (first | exact HO_7.out | (have hz_ := HO_7.out; (try simp only [ob_] at hz_); (try simp only [ob_]); exact hz_))) (Kd.R_base ho0) hb); have n2_ := Aside0.mk (Kd.R_lower (Kd.R_new' (Kd.R_new' ho0 (Kd.R_lt (by (with_reducible repeat (first | apply Kd.R_alloc | apply Kd.R_drewN | apply Kd.R_drew)); (first | exact HO_5.out | (have hz_ := HO_5.out; (try simp only [ob_] at hz_); (try simp only [ob_]); exact hz_))))) (Kd.R_lt (by (with_reducible repeat (first | apply Kd.R_alloc | apply Kd.R_drewN | apply Kd.R_drew)); (first | exact HO_7.out | (have hz_ := HO_7.out; (try simp only [ob_] at hz_); (try simp only [ob_]); exact hz_))))) (below_size (by repeat (first | (with_reducible first | exact HB.out | apply below_alloc | apply pw_below_drewN | apply below_drew1) | exact HB.out)))); have n3_ := Aside0.mk (below_step (by repeat (first | (with_reducible first | exact HB.out | apply below_alloc | apply pw_below_drewN | apply below_drew1) | exact HB.out)) hb); clear HO_5; clear HO_7; clear HB; have HO_5 := n0_; have HO_7 := n1_; have HO280 := n2_; have HB := n3_; clear n0_ n1_ n2_ n3_; (try clear hb); (try clear hb2); (try clear hk); (try clear hi); (try clear ho0); obtain ⟨Ao26, co26, eo26⟩ := Kd.R_slice HO_7.out; subst eo26) | ((with_reducible refine gate_callee (f := 69) rfl ?_); refine goesL_ (some 70) rfl rfl Try.func69 (by kernel_rfl) rfl #[.slice Ao26 t267.length co26] rfl (by (try simp only [List.map_toArray, List.map_cons, List.map_nil]); first | done | rfl | (simp only [List.length_drop, List.length_take]; rfl)) ?_; (with_reducible refine (impl_IsNecklace.calls kj7 _ _ t267 t281 t282 _ ?side1 ?side2 A21.out).mono ?_); (case side1 => repeat (first | exact (Kd.R_reads' HO_7.out).2.2 | (with_reducible refine Kd.C_alloc ?_ _) | (with_reducible refine Kd.C_drewN ?_ _) | (with_reducible refine Kd.C_drew ?_))); (case side2 => exact (Kd.R_reads' HO_7.out).2.1); rintro e w27 ⟨rfl, hb⟩; refine ⟨_, rfl, ?_⟩; have n0_ := Aside0.mk (Kd.R_below (by (with_reducible repeat (first | apply Kd.R_alloc | apply Kd.R_drewN | apply Kd.R_drew)); (first | exact HO_5.out | (have hz_ := HO_5.out; (try simp only [ob_] at hz_); (try simp only [ob_]); exact hz_))) hb); have n1_ := Aside0.mk (Kd.R_below (by (with_reducible repeat (first | apply Kd.R_alloc | apply Kd.R_drewN | apply Kd.R_drew)); (first | exact HO_7.out | (have hz_ := HO_7.out; (try simp only [ob_] at hz_); (try simp only [ob_]); exact hz_))) hb); have n2_ := Aside0.mk (Kd.R_below (by (with_reducible repeat (first | apply Kd.R_alloc | apply Kd.R_drewN | apply Kd.R_drew)); (first | exact HO280.out | (have hz_ := HO280.out; (try simp only [ob_] at hz_); (try simp only [ob_]); exact hz_))) hb); have n3_ := Aside0.mk (below_step (by repeat (first | (with_reducible first | exact HB.out | apply below_alloc | apply pw_below_drewN | apply below_drew1) | exact HB.out)) hb); clear HO_5; clear HO_7; clear HO280; clear HB; have HO_5 := n0_; have HO_7 := n1_; have HO280 := n2_; have HB := n3_; clear n0_ n1_ n2_ n3_; (try clear hb); (try clear hb2); (try clear hk); (try clear hi)) | ((with_reducible refine gate_callee (f := 70) rfl ?_); refine goesL_ (some 75) rfl rfl Try.func70 (by kernel_rfl) rfl #[.slice Ao10 t263.length co10] rfl (by (try simp only [List.map_toArray, List.map_cons, List.map_nil]); first | done | rfl | (simp only [List.length_drop, List.length_take]; rfl)) ?_; (with_reducible refine (impl_RootLength.calls kj7 _ _ t263 t283 t284 _ ?side1 ?side2 A22.out).mono ?_); (case side1 => repeat (first | exact (Kd.R_reads' HO_5.out).2.2 | (with_reducible refine Kd.C_alloc ?_ _) | (with_reducible refine Kd.C_drewN ?_ _) | (with_reducible refine Kd.C_drew ?_))); (case side2 => exact (Kd.R_reads' HO_5.out).2.1); rintro e w28 ⟨rfl, hb⟩; refine ⟨_, rfl, ?_⟩; have n0_ := Aside0.mk (Kd.R_below (by (with_reducible repeat (first | apply Kd.R_alloc | apply Kd.R_drewN | apply Kd.R_drew)); (first | exact HO_5.out | (have hz_ := HO_5.out; (try simp only [ob_] at hz_); (try simp only [ob_]); exact hz_))) hb); have n1_ := Aside0.mk (Kd.R_below (by (with_reducible repeat (first | apply Kd.R_alloc | apply Kd.R_drewN | apply Kd.R_drew)); (first | exact HO_7.out | (have hz_ := HO_7.out; (try simp only [ob_] at hz_); (try simp only [ob_]); exact hz_))) hb); have n2_ := Aside0.mk (Kd.R_below (by (with_reducible repeat (first | apply Kd.R_alloc | apply Kd.R_drewN | apply Kd.R_drew)); (first | exact HO280.out | (have hz_ := HO280.out; (try simp only [ob_] at hz_); (try simp only [ob_]); exact hz_))) hb); have n3_ := Aside0.mk (below_step (by repeat (first | (with_reducible first | exact HB.out | apply below_alloc | apply pw_below_drewN | apply below_drew1) | exact HB.out)) hb); clear HO_5; clear HO_7; clear HO280; clear HB; have HO_5 := n0_; have HO_7 := n1_; have HO280 := n2_; have HB := n3_; clear n0_ n1_ n2_ n3_; (try clear hb); (try clear hb2); (try clear hk); (try clear hi)) | ((with_reducible refine gate_callee (f := 69) rfl ?_); refine goesL_ (some 80) rfl rfl Try.func69 (by kernel_rfl) rfl #[.slice Ao10 t263.length co10] rfl (by (try simp only [List.map_toArray, List.map_cons, List.map_nil]); first | done | rfl | (simp only [List.length_drop, List.length_take]; rfl)) ?_; (with_reducible refine (impl_IsNecklace.calls kj7 _ _ t263 t285 t286 _ ?side1 ?side2 A23.out).mono ?_); (case side1 => repeat (first | exact (Kd.R_reads' HO_5.out).2.2 | (with_reducible refine Kd.C_alloc ?_ _) | (with_reducible refine Kd.C_drewN ?_ _) | (with_reducible refine Kd.C_drew ?_))); (case side2 => exact (Kd.R_reads' HO_5.out).2.1); rintro e w29 ⟨rfl, hb⟩; refine ⟨_, rfl, ?_⟩; have n0_ := Aside0.mk (Kd.R_below (by (with_reducible repeat (first | apply Kd.R_alloc | apply Kd.R_drewN | apply Kd.R_drew)); (first | exact HO_5.out | (have hz_ := HO_5.out; (try simp only [ob_] at hz_); (try simp only [ob_]); exact hz_))) hb); have n1_ := Aside0.mk (Kd.R_below (by (with_reducible repeat (first | apply Kd.R_alloc | apply Kd.R_drewN | apply Kd.R_drew)); (first | exact HO_7.out | (have hz_ := HO_7.out; (try simp only [ob_] at hz_); (try simp only [ob_]); exact hz_))) hb); have n2_ := Aside0.mk (Kd.R_below (by (with_reducible repeat (first | apply Kd.R_alloc | apply Kd.R_drewN | apply Kd.R_drew)); (first | exact HO280.out | (have hz_ := HO280.out; (try simp only [ob_] at hz_); (try simp only [ob_]); exact hz_))) hb); have n3_ := Aside0.mk (below_step (by repeat (first | (with_reducible first | exact HB.out | apply below_alloc | apply pw_below_drewN | apply below_drew1) | exact HB.out)) hb); clear HO_5; clear HO_7; clear HO280; clear HB; have HO_5 := n0_; have HO_7 := n1_; have HO280 := n2_; have HB := n3_; clear n0_ n1_ n2_ n3_; (try clear hb); (try clear hb2); (try clear hk); (try clear hi)))
            (try simp only [Act.put, List.setIfInBounds_toArray, List.set_cons_zero, List.set_cons_succ])
            go_cut [125] (fun v125 wc => ∃ (kq : Nat) (x125_23 : Bool), v125 = .bool x125_23 ∧ Aside0 (laws_FnLeastRotations.j1 kq t263 t267 t283 t285 x125_23 = some r) ∧ Aside0 (kq ≤ kj7) ∧ Aside0 (Kd.R (Kd.int .i64) 3 wc w.heap.size (fun k_ => some k_ ≠ ((.slice Ao26 t267.length co26) : Value).ownBlock) (.slice Ao10 t263.length co10) t263) ∧ Aside0 (Kd.R (Kd.int .i64) 3 wc w.heap.size (fun k_ => some k_ ≠ ((.slice Ao10 t263.length co10) : Value).ownBlock) (.slice Ao26 t267.length co26) t267) ∧ Aside0 (Below w.heap.size w wc))
            case first =>
              have H := HC24.out
              clear HC24
              by_cases c30 : t278 = true
              · subst c30
                have H1 : (if t282 = true then (if t284 = true then (if t286 = true then (if t281 = true then ((laws_tSame.f kj7 t277 t267).bind fun t287 => (if t287 = true then ((laws_tSame.f kj7 t263 t267).bind fun t288 => (if (t285 != t288) = true then (laws_FnLeastRotations.j1 kj7 t263 t267 t283 t285 true) else (if t283 = 0 then (none) else (if ((t263.length : Int) % t283) = 0 then (laws_FnLeastRotations.j1 kj7 t263 t267 t283 t285 (decide (t266 ≥ t283))) else (laws_FnLeastRotations.j1 kj7 t263 t267 t283 t285 true))))) else (laws_FnLeastRotations.j1 kj7 t263 t267 t283 t285 true))) else (laws_FnLeastRotations.j1 kj7 t263 t267 t283 t285 true)) else (laws_FnLeastRotations.j1 kj7 t263 t267 t283 t285 true)) else (laws_FnLeastRotations.j1 kj7 t263 t267 t283 t285 true)) else (laws_FnLeastRotations.j1 kj7 t263 t267 t283 t285 true)) = some r := by rw [if_pos rfl] at H; exact H
                clear H
                have H := H1
                clear H1
                by_cases c31 : t282 = true
                · subst c31
                  have H1 : (if t284 = true then (if t286 = true then (if t281 = true then ((laws_tSame.f kj7 t277 t267).bind fun t287 => (if t287 = true then ((laws_tSame.f kj7 t263 t267).bind fun t288 => (if (t285 != t288) = true then (laws_FnLeastRotations.j1 kj7 t263 t267 t283 t285 true) else (if t283 = 0 then (none) else (if ((t263.length : Int) % t283) = 0 then (laws_FnLeastRotations.j1 kj7 t263 t267 t283 t285 (decide (t266 ≥ t283))) else (laws_FnLeastRotations.j1 kj7 t263 t267 t283 t285 true))))) else (laws_FnLeastRotations.j1 kj7 t263 t267 t283 t285 true))) else (laws_FnLeastRotations.j1 kj7 t263 t267 t283 t285 true)) else (laws_FnLeastRotations.j1 kj7 t263 t267 t283 t285 true)) else (laws_FnLeastRotations.j1 kj7 t263 t267 t283 t285 true)) = some r := by rw [if_pos rfl] at H; exact H
                  clear H
                  have H := H1
                  clear H1
                  by_cases c32 : t284 = true
                  · subst c32
                    have H1 : (if t286 = true then (if t281 = true then ((laws_tSame.f kj7 t277 t267).bind fun t287 => (if t287 = true then ((laws_tSame.f kj7 t263 t267).bind fun t288 => (if (t285 != t288) = true then (laws_FnLeastRotations.j1 kj7 t263 t267 t283 t285 true) else (if t283 = 0 then (none) else (if ((t263.length : Int) % t283) = 0 then (laws_FnLeastRotations.j1 kj7 t263 t267 t283 t285 (decide (t266 ≥ t283))) else (laws_FnLeastRotations.j1 kj7 t263 t267 t283 t285 true))))) else (laws_FnLeastRotations.j1 kj7 t263 t267 t283 t285 true))) else (laws_FnLeastRotations.j1 kj7 t263 t267 t283 t285 true)) else (laws_FnLeastRotations.j1 kj7 t263 t267 t283 t285 true)) = some r := by rw [if_pos rfl] at H; exact H
                    clear H
                    have H := H1
                    clear H1
                    by_cases c33 : t286 = true
                    · subst c33
                      have H1 : (if t281 = true then ((laws_tSame.f kj7 t277 t267).bind fun t287 => (if t287 = true then ((laws_tSame.f kj7 t263 t267).bind fun t288 => (if (t285 != t288) = true then (laws_FnLeastRotations.j1 kj7 t263 t267 t283 t285 true) else (if t283 = 0 then (none) else (if ((t263.length : Int) % t283) = 0 then (laws_FnLeastRotations.j1 kj7 t263 t267 t283 t285 (decide (t266 ≥ t283))) else (laws_FnLeastRotations.j1 kj7 t263 t267 t283 t285 true))))) else (laws_FnLeastRotations.j1 kj7 t263 t267 t283 t285 true))) else (laws_FnLeastRotations.j1 kj7 t263 t267 t283 t285 true)) = some r := by rw [if_pos rfl] at H; exact H
                      clear H
                      have H := H1
                      clear H1
                      by_cases c34 : t281 = true
                      · subst c34
                        have H1 : ((laws_tSame.f kj7 t277 t267).bind fun t287 => (if t287 = true then ((laws_tSame.f kj7 t263 t267).bind fun t288 => (if (t285 != t288) = true then (laws_FnLeastRotations.j1 kj7 t263 t267 t283 t285 true) else (if t283 = 0 then (none) else (if ((t263.length : Int) % t283) = 0 then (laws_FnLeastRotations.j1 kj7 t263 t267 t283 t285 (decide (t266 ≥ t283))) else (laws_FnLeastRotations.j1 kj7 t263 t267 t283 t285 true))))) else (laws_FnLeastRotations.j1 kj7 t263 t267 t283 t285 true))) = some r := by rw [if_pos rfl] at H; exact H
                        clear H
                        have H := H1
                        clear H1
                        replace H := Option.bind_eq_some_iff.mp H
                        obtain ⟨t287, A350, H⟩ := H
                        replace H : (if t287 = true then ((laws_tSame.f kj7 t263 t267).bind fun t288 => (if (t285 != t288) = true then (laws_FnLeastRotations.j1 kj7 t263 t267 t283 t285 true) else (if t283 = 0 then (none) else (if ((t263.length : Int) % t283) = 0 then (laws_FnLeastRotations.j1 kj7 t263 t267 t283 t285 (decide (t266 ≥ t283))) else (laws_FnLeastRotations.j1 kj7 t263 t267 t283 t285 true))))) else (laws_FnLeastRotations.j1 kj7 t263 t267 t283 t285 true)) = some r := H
                        have A35 := Aside0.mk A350
                        clear A350
                        by_cases c36 : t287 = true
                        · subst c36
                          have H1 : ((laws_tSame.f kj7 t263 t267).bind fun t288 => (if (t285 != t288) = true then (laws_FnLeastRotations.j1 kj7 t263 t267 t283 t285 true) else (if t283 = 0 then (none) else (if ((t263.length : Int) % t283) = 0 then (laws_FnLeastRotations.j1 kj7 t263 t267 t283 t285 (decide (t266 ≥ t283))) else (laws_FnLeastRotations.j1 kj7 t263 t267 t283 t285 true))))) = some r := by rw [if_pos rfl] at H; exact H
                          clear H
                          have H := H1
                          clear H1
                          replace H := Option.bind_eq_some_iff.mp H
                          obtain ⟨t288, A370, H⟩ := H
                          replace H : (if (t285 != t288) = true then (laws_FnLeastRotations.j1 kj7 t263 t267 t283 t285 true) else (if t283 = 0 then (none) else (if ((t263.length : Int) % t283) = 0 then (laws_FnLeastRotations.j1 kj7 t263 t267 t283 t285 (decide (t266 ≥ t283))) else (laws_FnLeastRotations.j1 kj7 t263 t267 t283 t285 true)))) = some r := H
                          have A37 := Aside0.mk A370
                          clear A370
                          by_cases c38 : (t285 != t288) = true
                          · rw [if_pos c38] at H
                            have c38b0 : (t285 != t288) = true := c38
                            (try (have c38b1 : decide (t285 = t288) = false := by simpa using c38))
                            (try (have c38b2 : (t285 == t288) = false := by simpa using c38))
                            (try (have c38b3 : ¬ (t285 = t288) := by simpa using c38))
                            clear c38
                            (first | rw [c38b0] | (simp only [i64_w, i32_w]; rw [c38b0]) | skip)
                            have H' := Aside0.mk H
                            clear H
                            obtain ⟨Ao39, co39, eo39⟩ := Kd.R_slice HO280.out
                            subst eo39
                            go_wp2_with (first | (go_at_call 30; (with_reducible refine (laws_tSame.calls kj7 _ _ t277 _ _ t267 true _ ?side1 ?side2 ?side3 ?side4 A35.out).mono ?_); (case side1 => repeat (first | exact (Kd.R_reads' HO280.out).2.2 | (with_reducible refine Kd.C_alloc ?_ _) | (with_reducible refine Kd.C_drewN ?_ _) | (with_reducible refine Kd.C_drew ?_))); (case side2 => exact (Kd.R_reads' HO280.out).2.1); (case side3 => repeat (first | exact (Kd.R_reads' HO_7.out).2.2 | (with_reducible refine Kd.C_alloc ?_ _) | (with_reducible refine Kd.C_drewN ?_ _) | (with_reducible refine Kd.C_drew ?_))); (case side4 => exact (Kd.R_reads' HO_7.out).2.1); rintro e w' ⟨rfl, ⟨nd, rfl⟩⟩) | (go_at_call 30; (with_reducible refine (laws_tSame.calls kj7 _ _ t263 _ _ t267 t288 _ ?side1 ?side2 ?side3 ?side4 A37.out).mono ?_); (case side1 => repeat (first | exact (Kd.R_reads' HO_5.out).2.2 | (with_reducible refine Kd.C_alloc ?_ _) | (with_reducible refine Kd.C_drewN ?_ _) | (with_reducible refine Kd.C_drew ?_))); (case side2 => exact (Kd.R_reads' HO_5.out).2.1); (case side3 => repeat (first | exact (Kd.R_reads' HO_7.out).2.2 | (with_reducible refine Kd.C_alloc ?_ _) | (with_reducible refine Kd.C_drewN ?_ _) | (with_reducible refine Kd.C_drew ?_))); (case side4 => exact (Kd.R_reads' HO_7.out).2.1); rintro e w' ⟨rfl, ⟨nd, rfl⟩⟩))
                            go_meet
                            case rel => exact ⟨_, (true), (by first | rfl | (simp; done) | (simp [*]; done)), H', ⟨by have := HJ7.out; first | omega | exact Nat.le_refl _⟩, ⟨by (with_reducible repeat (first | apply Kd.R_alloc | apply Kd.R_drewN | apply Kd.R_drew)); (first | exact Kd.R_mono HO_5.out (fun _ hk => hk.1) | (have hz_ := Kd.R_mono HO_5.out (fun _ hk => hk.1); (try simp only [ob_] at hz_); (try simp only [ob_]); exact hz_))⟩, ⟨by (with_reducible repeat (first | apply Kd.R_alloc | apply Kd.R_drewN | apply Kd.R_drew)); (first | exact Kd.R_mono HO_7.out (fun _ hk => hk.1) | (have hz_ := Kd.R_mono HO_7.out (fun _ hk => hk.1); (try simp only [ob_] at hz_); (try simp only [ob_]); exact hz_))⟩, ⟨by repeat (first | (with_reducible first | exact HB.out | apply below_alloc | apply pw_below_drewN | apply below_drew1) | exact HB.out)⟩⟩
                          · rw [if_neg c38] at H
                            have c38b0 : (t285 != t288) = false := by simpa using c38
                            (try (have c38b1 : decide (t285 = t288) = true := by simpa using c38))
                            (try (have c38b2 : (t285 == t288) = true := by simpa using c38))
                            clear c38
                            (first | rw [c38b0] | (simp only [i64_w, i32_w]; rw [c38b0]) | skip)
                            by_cases c40 : t283 = 0
                            · rw [if_pos c40] at H
                              exact absurd H (by simp)
                            · rw [if_neg c40] at H
                              have c40b0 : (t283 == 0) = false := beq_eq_false_iff_ne.mpr c40
                              have c40b1 : (t283 != 0) = true := bne_iff_ne.mpr c40
                              by_cases c41 : ((t263.length : Int) % t283) = 0
                              · rw [if_pos c41] at H
                                have c41b0 : (((t263.length : Int) % t283) == 0) = true := beq_iff_eq.mpr c41
                                have c41b1 : (((t263.length : Int) % t283) != 0) = false := bne_eq_false_iff_eq.mpr c41
                                clear c41
                                have H' := Aside0.mk H
                                clear H
                                obtain ⟨Ao42, co42, eo42⟩ := Kd.R_slice HO280.out
                                subst eo42
                                go_wp2_with (first | (go_at_call 30; (with_reducible refine (laws_tSame.calls kj7 _ _ t277 _ _ t267 true _ ?side1 ?side2 ?side3 ?side4 A35.out).mono ?_); (case side1 => repeat (first | exact (Kd.R_reads' HO280.out).2.2 | (with_reducible refine Kd.C_alloc ?_ _) | (with_reducible refine Kd.C_drewN ?_ _) | (with_reducible refine Kd.C_drew ?_))); (case side2 => exact (Kd.R_reads' HO280.out).2.1); (case side3 => repeat (first | exact (Kd.R_reads' HO_7.out).2.2 | (with_reducible refine Kd.C_alloc ?_ _) | (with_reducible refine Kd.C_drewN ?_ _) | (with_reducible refine Kd.C_drew ?_))); (case side4 => exact (Kd.R_reads' HO_7.out).2.1); rintro e w' ⟨rfl, ⟨nd, rfl⟩⟩) | (go_at_call 30; (with_reducible refine (laws_tSame.calls kj7 _ _ t263 _ _ t267 t288 _ ?side1 ?side2 ?side3 ?side4 A37.out).mono ?_); (case side1 => repeat (first | exact (Kd.R_reads' HO_5.out).2.2 | (with_reducible refine Kd.C_alloc ?_ _) | (with_reducible refine Kd.C_drewN ?_ _) | (with_reducible refine Kd.C_drew ?_))); (case side2 => exact (Kd.R_reads' HO_5.out).2.1); (case side3 => repeat (first | exact (Kd.R_reads' HO_7.out).2.2 | (with_reducible refine Kd.C_alloc ?_ _) | (with_reducible refine Kd.C_drewN ?_ _) | (with_reducible refine Kd.C_drew ?_))); (case side4 => exact (Kd.R_reads' HO_7.out).2.1); rintro e w' ⟨rfl, ⟨nd, rfl⟩⟩))
                                go_meet
                                case rel => exact ⟨_, (decide (t266 ≥ t283)), (by first | rfl | (simp; done) | (simp [*]; done)), H', ⟨by have := HJ7.out; first | omega | exact Nat.le_refl _⟩, ⟨by (with_reducible repeat (first | apply Kd.R_alloc | apply Kd.R_drewN | apply Kd.R_drew)); (first | exact Kd.R_mono HO_5.out (fun _ hk => hk.1) | (have hz_ := Kd.R_mono HO_5.out (fun _ hk => hk.1); (try simp only [ob_] at hz_); (try simp only [ob_]); exact hz_))⟩, ⟨by (with_reducible repeat (first | apply Kd.R_alloc | apply Kd.R_drewN | apply Kd.R_drew)); (first | exact Kd.R_mono HO_7.out (fun _ hk => hk.1) | (have hz_ := Kd.R_mono HO_7.out (fun _ hk => hk.1); (try simp only [ob_] at hz_); (try simp only [ob_]); exact hz_))⟩, ⟨by repeat (first | (with_reducible first | exact HB.out | apply below_alloc | apply pw_below_drewN | apply below_drew1) | exact HB.out)⟩⟩
                              · rw [if_neg c41] at H
                                have c41b0 : (((t263.length : Int) % t283) == 0) = false := beq_eq_false_iff_ne.mpr c41
                                have c41b1 : (((t263.length : Int) % t283) != 0) = true := bne_iff_ne.mpr c41
                                have H' := Aside0.mk H
                                clear H
                                obtain ⟨Ao43, co43, eo43⟩ := Kd.R_slice HO280.out
                                subst eo43
                                go_wp2_with (first | (go_at_call 30; (with_reducible refine (laws_tSame.calls kj7 _ _ t277 _ _ t267 true _ ?side1 ?side2 ?side3 ?side4 A35.out).mono ?_); (case side1 => repeat (first | exact (Kd.R_reads' HO280.out).2.2 | (with_reducible refine Kd.C_alloc ?_ _) | (with_reducible refine Kd.C_drewN ?_ _) | (with_reducible refine Kd.C_drew ?_))); (case side2 => exact (Kd.R_reads' HO280.out).2.1); (case side3 => repeat (first | exact (Kd.R_reads' HO_7.out).2.2 | (with_reducible refine Kd.C_alloc ?_ _) | (with_reducible refine Kd.C_drewN ?_ _) | (with_reducible refine Kd.C_drew ?_))); (case side4 => exact (Kd.R_reads' HO_7.out).2.1); rintro e w' ⟨rfl, ⟨nd, rfl⟩⟩) | (go_at_call 30; (with_reducible refine (laws_tSame.calls kj7 _ _ t263 _ _ t267 t288 _ ?side1 ?side2 ?side3 ?side4 A37.out).mono ?_); (case side1 => repeat (first | exact (Kd.R_reads' HO_5.out).2.2 | (with_reducible refine Kd.C_alloc ?_ _) | (with_reducible refine Kd.C_drewN ?_ _) | (with_reducible refine Kd.C_drew ?_))); (case side2 => exact (Kd.R_reads' HO_5.out).2.1); (case side3 => repeat (first | exact (Kd.R_reads' HO_7.out).2.2 | (with_reducible refine Kd.C_alloc ?_ _) | (with_reducible refine Kd.C_drewN ?_ _) | (with_reducible refine Kd.C_drew ?_))); (case side4 => exact (Kd.R_reads' HO_7.out).2.1); rintro e w' ⟨rfl, ⟨nd, rfl⟩⟩))
                                go_meet
                                case rel => exact ⟨_, (true), (by first | rfl | (simp; done) | (simp [*]; done)), H', ⟨by have := HJ7.out; first | omega | exact Nat.le_refl _⟩, ⟨by (with_reducible repeat (first | apply Kd.R_alloc | apply Kd.R_drewN | apply Kd.R_drew)); (first | exact Kd.R_mono HO_5.out (fun _ hk => hk.1) | (have hz_ := Kd.R_mono HO_5.out (fun _ hk => hk.1); (try simp only [ob_] at hz_); (try simp only [ob_]); exact hz_))⟩, ⟨by (with_reducible repeat (first | apply Kd.R_alloc | apply Kd.R_drewN | apply Kd.R_drew)); (first | exact Kd.R_mono HO_7.out (fun _ hk => hk.1) | (have hz_ := Kd.R_mono HO_7.out (fun _ hk => hk.1); (try simp only [ob_] at hz_); (try simp only [ob_]); exact hz_))⟩, ⟨by repeat (first | (with_reducible first | exact HB.out | apply below_alloc | apply pw_below_drewN | apply below_drew1) | exact HB.out)⟩⟩
                        · replace c36 := Bool.eq_false_iff.mpr c36
                          subst c36
                          have H1 : (laws_FnLeastRotations.j1 kj7 t263 t267 t283 t285 true) = some r := by rw [if_neg (show ¬ (false = true) by decide)] at H; exact H
                          clear H
                          have H := H1
                          clear H1
                          have H' := Aside0.mk H
                          clear H
                          obtain ⟨Ao44, co44, eo44⟩ := Kd.R_slice HO280.out
                          subst eo44
                          go_wp2_with (first | (go_at_call 30; (with_reducible refine (laws_tSame.calls kj7 _ _ t277 _ _ t267 false _ ?side1 ?side2 ?side3 ?side4 A35.out).mono ?_); (case side1 => repeat (first | exact (Kd.R_reads' HO280.out).2.2 | (with_reducible refine Kd.C_alloc ?_ _) | (with_reducible refine Kd.C_drewN ?_ _) | (with_reducible refine Kd.C_drew ?_))); (case side2 => exact (Kd.R_reads' HO280.out).2.1); (case side3 => repeat (first | exact (Kd.R_reads' HO_7.out).2.2 | (with_reducible refine Kd.C_alloc ?_ _) | (with_reducible refine Kd.C_drewN ?_ _) | (with_reducible refine Kd.C_drew ?_))); (case side4 => exact (Kd.R_reads' HO_7.out).2.1); rintro e w' ⟨rfl, ⟨nd, rfl⟩⟩))
                          go_meet
                          case rel => exact ⟨_, (true), (by first | rfl | (simp; done) | (simp [*]; done)), H', ⟨by have := HJ7.out; first | omega | exact Nat.le_refl _⟩, ⟨by (with_reducible repeat (first | apply Kd.R_alloc | apply Kd.R_drewN | apply Kd.R_drew)); (first | exact Kd.R_mono HO_5.out (fun _ hk => hk.1) | (have hz_ := Kd.R_mono HO_5.out (fun _ hk => hk.1); (try simp only [ob_] at hz_); (try simp only [ob_]); exact hz_))⟩, ⟨by (with_reducible repeat (first | apply Kd.R_alloc | apply Kd.R_drewN | apply Kd.R_drew)); (first | exact Kd.R_mono HO_7.out (fun _ hk => hk.1) | (have hz_ := Kd.R_mono HO_7.out (fun _ hk => hk.1); (try simp only [ob_] at hz_); (try simp only [ob_]); exact hz_))⟩, ⟨by repeat (first | (with_reducible first | exact HB.out | apply below_alloc | apply pw_below_drewN | apply below_drew1) | exact HB.out)⟩⟩
                      · replace c34 := Bool.eq_false_iff.mpr c34
                        subst c34
                        have H1 : (laws_FnLeastRotations.j1 kj7 t263 t267 t283 t285 true) = some r := by rw [if_neg (show ¬ (false = true) by decide)] at H; exact H
                        clear H
                        have H := H1
                        clear H1
                        have H' := Aside0.mk H
                        clear H
                        go_wp2
                        go_meet
                        case rel => exact ⟨_, (true), (by first | rfl | (simp; done) | (simp [*]; done)), H', ⟨by have := HJ7.out; first | omega | exact Nat.le_refl _⟩, ⟨by (with_reducible repeat (first | apply Kd.R_alloc | apply Kd.R_drewN | apply Kd.R_drew)); (first | exact Kd.R_mono HO_5.out (fun _ hk => hk.1) | (have hz_ := Kd.R_mono HO_5.out (fun _ hk => hk.1); (try simp only [ob_] at hz_); (try simp only [ob_]); exact hz_))⟩, ⟨by (with_reducible repeat (first | apply Kd.R_alloc | apply Kd.R_drewN | apply Kd.R_drew)); (first | exact Kd.R_mono HO_7.out (fun _ hk => hk.1) | (have hz_ := Kd.R_mono HO_7.out (fun _ hk => hk.1); (try simp only [ob_] at hz_); (try simp only [ob_]); exact hz_))⟩, ⟨by repeat (first | (with_reducible first | exact HB.out | apply below_alloc | apply pw_below_drewN | apply below_drew1) | exact HB.out)⟩⟩
                    · replace c33 := Bool.eq_false_iff.mpr c33
                      subst c33
                      have H1 : (laws_FnLeastRotations.j1 kj7 t263 t267 t283 t285 true) = some r := by rw [if_neg (show ¬ (false = true) by decide)] at H; exact H
                      clear H
                      have H := H1
                      clear H1
                      have H' := Aside0.mk H
                      clear H
                      go_wp2
                      go_meet
                      case rel => exact ⟨_, (true), (by first | rfl | (simp; done) | (simp [*]; done)), H', ⟨by have := HJ7.out; first | omega | exact Nat.le_refl _⟩, ⟨by (with_reducible repeat (first | apply Kd.R_alloc | apply Kd.R_drewN | apply Kd.R_drew)); (first | exact Kd.R_mono HO_5.out (fun _ hk => hk.1) | (have hz_ := Kd.R_mono HO_5.out (fun _ hk => hk.1); (try simp only [ob_] at hz_); (try simp only [ob_]); exact hz_))⟩, ⟨by (with_reducible repeat (first | apply Kd.R_alloc | apply Kd.R_drewN | apply Kd.R_drew)); (first | exact Kd.R_mono HO_7.out (fun _ hk => hk.1) | (have hz_ := Kd.R_mono HO_7.out (fun _ hk => hk.1); (try simp only [ob_] at hz_); (try simp only [ob_]); exact hz_))⟩, ⟨by repeat (first | (with_reducible first | exact HB.out | apply below_alloc | apply pw_below_drewN | apply below_drew1) | exact HB.out)⟩⟩
                  · replace c32 := Bool.eq_false_iff.mpr c32
                    subst c32
                    have H1 : (laws_FnLeastRotations.j1 kj7 t263 t267 t283 t285 true) = some r := by rw [if_neg (show ¬ (false = true) by decide)] at H; exact H
                    clear H
                    have H := H1
                    clear H1
                    have H' := Aside0.mk H
                    clear H
                    go_wp2
                    go_meet
                    case rel => exact ⟨_, (true), (by first | rfl | (simp; done) | (simp [*]; done)), H', ⟨by have := HJ7.out; first | omega | exact Nat.le_refl _⟩, ⟨by (with_reducible repeat (first | apply Kd.R_alloc | apply Kd.R_drewN | apply Kd.R_drew)); (first | exact Kd.R_mono HO_5.out (fun _ hk => hk.1) | (have hz_ := Kd.R_mono HO_5.out (fun _ hk => hk.1); (try simp only [ob_] at hz_); (try simp only [ob_]); exact hz_))⟩, ⟨by (with_reducible repeat (first | apply Kd.R_alloc | apply Kd.R_drewN | apply Kd.R_drew)); (first | exact Kd.R_mono HO_7.out (fun _ hk => hk.1) | (have hz_ := Kd.R_mono HO_7.out (fun _ hk => hk.1); (try simp only [ob_] at hz_); (try simp only [ob_]); exact hz_))⟩, ⟨by repeat (first | (with_reducible first | exact HB.out | apply below_alloc | apply pw_below_drewN | apply below_drew1) | exact HB.out)⟩⟩
                · replace c31 := Bool.eq_false_iff.mpr c31
                  subst c31
                  have H1 : (laws_FnLeastRotations.j1 kj7 t263 t267 t283 t285 true) = some r := by rw [if_neg (show ¬ (false = true) by decide)] at H; exact H
                  clear H
                  have H := H1
                  clear H1
                  have H' := Aside0.mk H
                  clear H
                  go_wp2
                  go_meet
                  case rel => exact ⟨_, (true), (by first | rfl | (simp; done) | (simp [*]; done)), H', ⟨by have := HJ7.out; first | omega | exact Nat.le_refl _⟩, ⟨by (with_reducible repeat (first | apply Kd.R_alloc | apply Kd.R_drewN | apply Kd.R_drew)); (first | exact Kd.R_mono HO_5.out (fun _ hk => hk.1) | (have hz_ := Kd.R_mono HO_5.out (fun _ hk => hk.1); (try simp only [ob_] at hz_); (try simp only [ob_]); exact hz_))⟩, ⟨by (with_reducible repeat (first | apply Kd.R_alloc | apply Kd.R_drewN | apply Kd.R_drew)); (first | exact Kd.R_mono HO_7.out (fun _ hk => hk.1) | (have hz_ := Kd.R_mono HO_7.out (fun _ hk => hk.1); (try simp only [ob_] at hz_); (try simp only [ob_]); exact hz_))⟩, ⟨by repeat (first | (with_reducible first | exact HB.out | apply below_alloc | apply pw_below_drewN | apply below_drew1) | exact HB.out)⟩⟩
              · replace c30 := Bool.eq_false_iff.mpr c30
                subst c30
                have H1 : (laws_FnLeastRotations.j1 kj7 t263 t267 t283 t285 true) = some r := by rw [if_neg (show ¬ (false = true) by decide)] at H; exact H
                clear H
                have H := H1
                clear H1
                have H' := Aside0.mk H
                clear H
                go_wp2
                go_meet
                case rel => exact ⟨_, (true), (by first | rfl | (simp; done) | (simp [*]; done)), H', ⟨by have := HJ7.out; first | omega | exact Nat.le_refl _⟩, ⟨by (with_reducible repeat (first | apply Kd.R_alloc | apply Kd.R_drewN | apply Kd.R_drew)); (first | exact Kd.R_mono HO_5.out (fun _ hk => hk.1) | (have hz_ := Kd.R_mono HO_5.out (fun _ hk => hk.1); (try simp only [ob_] at hz_); (try simp only [ob_]); exact hz_))⟩, ⟨by (with_reducible repeat (first | apply Kd.R_alloc | apply Kd.R_drewN | apply Kd.R_drew)); (first | exact Kd.R_mono HO_7.out (fun _ hk => hk.1) | (have hz_ := Kd.R_mono HO_7.out (fun _ hk => hk.1); (try simp only [ob_] at hz_); (try simp only [ob_]); exact hz_))⟩, ⟨by repeat (first | (with_reducible first | exact HB.out | apply below_alloc | apply pw_below_drewN | apply below_drew1) | exact HB.out)⟩⟩
            case rest =>
              clear HC24
              try clear c1
              try clear p2
              try clear c3
              try clear c4
              try clear c6
              try clear c7
              try clear c12
              try clear c13
              try clear c13b0
              try clear c13b1
              try clear c13b2
              try clear c14
              try clear c14b0
              try clear c14b1
              try clear c15
              try clear c18
              try clear c19
              try clear c30
              try clear c31
              try clear c32
              try clear c33
              try clear c34
              try clear c36
              try clear c38
              try clear c38b0
              try clear c38b1
              try clear c38b2
              try clear c40
              try clear c40b0
              try clear c40b1
              try clear c41
              try clear c41b0
              try clear c41b1
              try clear p2
              obtain ⟨kq, x125_23, rfl, HA, HJ23, HO_5, HO_7, HB⟩ := hcut
              cases kq with
              | zero => exact absurd HA.out (by simp [laws_FnLeastRotations.j1])
              | succ kj23 =>
                have H := HA.out
                clear HA
                simp only [laws_FnLeastRotations.j1] at H
                by_cases c45 : x125_23 = true
                · subst c45
                  have H1 : (some false) = some r := by rw [if_pos rfl] at H; exact H
                  clear H
                  have H := H1
                  clear H1
                  obtain rfl := Option.some.inj H
                  go_wp2
                  go_ret
                  exact ⟨by first | rfl | (simp [errW_none, errW_some] <;> rfl) | (simp [*, errW_none, errW_some] <;> rfl), by repeat (first | (with_reducible first | exact HB.out | apply below_alloc | apply pw_below_drewN | apply below_drew1) | exact HB.out)⟩
                · replace c45 := Bool.eq_false_iff.mpr c45
                  subst c45
                  have H1 : (laws_FnLeastRotations.l0 kj23 t263 t267 t283 t285 0 (t263.length : Int) 0) = some r := by rw [if_neg (show ¬ (false = true) by decide)] at H; exact H
                  clear H
                  have H := H1
                  clear H1
                  have H' := Aside0.mk H
                  clear H
                  go_wp2
                  go_loopg [20, 128] kj23 (fun kq v20 v128 w' => ∃ (x20_3 : Int) (x128_3 : Int), v20 = .int .i64 x20_3 ∧ v128 = .int .i64 x128_3 ∧ Aside0 (laws_FnLeastRotations.l0 kq t263 t267 t283 t285 x20_3 (t263.length : Int) x128_3 = some r) ∧ Aside0 (kq ≤ kj23) ∧ Aside0 (Kd.R (Kd.int .i64) 3 w' w.heap.size (fun k_ => some k_ ≠ ((.slice Ao26 t267.length co26) : Value).ownBlock) (.slice Ao10 t263.length co10) t263) ∧ Aside0 (Kd.R (Kd.int .i64) 3 w' w.heap.size (fun k_ => some k_ ≠ ((.slice Ao10 t263.length co10) : Value).ownBlock) (.slice Ao26 t267.length co26) t267) ∧ Aside0 (Below w.heap.size w w'))
                  case atStart => exact ⟨(0), (0), (by first | rfl | (simp; done) | (simp [*]; done)), (by first | rfl | (simp; done) | (simp [*]; done)), H', ⟨Nat.le_refl _⟩, ⟨by (with_reducible repeat (first | apply Kd.R_alloc | apply Kd.R_drewN | apply Kd.R_drew)); (first | exact HO_5.out | (have hz_ := HO_5.out; (try simp only [ob_] at hz_); (try simp only [ob_]); exact hz_))⟩, ⟨by (with_reducible repeat (first | apply Kd.R_alloc | apply Kd.R_drewN | apply Kd.R_drew)); (first | exact HO_7.out | (have hz_ := HO_7.out; (try simp only [ob_] at hz_); (try simp only [ob_]); exact hz_))⟩, ⟨by repeat (first | (with_reducible first | exact HB.out | apply below_alloc | apply pw_below_drewN | apply below_drew1) | exact HB.out)⟩⟩
                  case round =>
                    clear H'
                    try clear c1
                    try clear p2
                    try clear c3
                    try clear c4
                    try clear c6
                    try clear c7
                    try clear c12
                    try clear c13
                    try clear c13b0
                    try clear c13b1
                    try clear c13b2
                    try clear c14
                    try clear c14b0
                    try clear c14b1
                    try clear c15
                    try clear c18
                    try clear c19
                    try clear c30
                    try clear c31
                    try clear c32
                    try clear c33
                    try clear c34
                    try clear c36
                    try clear c38
                    try clear c38b0
                    try clear c38b1
                    try clear c38b2
                    try clear c40
                    try clear c40b0
                    try clear c40b1
                    try clear c41
                    try clear c41b0
                    try clear c41b1
                    try clear c45
                    try clear p2
                    obtain ⟨x20_3, x128_3, rfl, rfl, HA, HK3, HO_5, HO_7, HB⟩ := hrel
                    cases gk with
                    | zero => exact absurd HA.out (by simp [laws_FnLeastRotations.l0])
                    | succ k3 =>
                      have H := HA.out
                      clear HA
                      simp only [laws_FnLeastRotations.l0] at H
                      by_cases c46 : x128_3 < (t263.length : Int)
                      · rw [if_pos c46] at H
                        have c46b0 : decide (x128_3 < (t263.length : Int)) = true := decide_eq_true c46
                        clear c46
                        replace H := Option.bind_eq_some_iff.mp H
                        obtain ⟨⟨t291, t292⟩, A470, H⟩ := H
                        replace H : ((impl_LeastRotation.f k3 t291).bind fun bt295 => (if t292 = true then (if bt295.2.2 = true then ((laws_tSame.f k3 bt295.2.1 t267).bind fun t300 => (if t300 = true then ((laws_tLess.f k3 t291 t267).bind fun t301 => (laws_FnLeastRotations.j3 k3 t263 t267 t283 t285 x20_3 t291 (t263.length : Int) x128_3 t301)) else (laws_FnLeastRotations.j3 k3 t263 t267 t283 t285 x20_3 t291 (t263.length : Int) x128_3 true))) else (laws_FnLeastRotations.j3 k3 t263 t267 t283 t285 x20_3 t291 (t263.length : Int) x128_3 true)) else (laws_FnLeastRotations.j3 k3 t263 t267 t283 t285 x20_3 t291 (t263.length : Int) x128_3 true))) = some r := H
                        have A47 := Aside0.mk A470
                        clear A470
                        replace H := Option.bind_eq_some_iff.mp H
                        obtain ⟨⟨t295, t296, t297⟩, A480, H⟩ := H
                        replace H : (if t292 = true then (if t297 = true then ((laws_tSame.f k3 t296 t267).bind fun t300 => (if t300 = true then ((laws_tLess.f k3 t291 t267).bind fun t301 => (laws_FnLeastRotations.j3 k3 t263 t267 t283 t285 x20_3 t291 (t263.length : Int) x128_3 t301)) else (laws_FnLeastRotations.j3 k3 t263 t267 t283 t285 x20_3 t291 (t263.length : Int) x128_3 true))) else (laws_FnLeastRotations.j3 k3 t263 t267 t283 t285 x20_3 t291 (t263.length : Int) x128_3 true)) else (laws_FnLeastRotations.j3 k3 t263 t267 t283 t285 x20_3 t291 (t263.length : Int) x128_3 true)) = some r := H
                        have A48 := Aside0.mk A480
                        clear A480
                        have HC49 := Aside0.mk H
                        clear H
                        go_upto_region 22 with (first | ((with_reducible refine gate_callee (f := 68) rfl ?_); refine goesL_ (some 134) rfl rfl Try.func68 (by kernel_rfl) rfl #[.slice Ao10 t263.length co10, .int .i64 x128_3] rfl (by (try simp only [List.map_toArray, List.map_cons, List.map_nil]); first | done | rfl | (simp only [List.length_drop, List.length_take]; rfl)) ?_; (with_reducible refine (impl_RotateWord.calls k3 _ _ t263 x128_3 t291 t292 _ ?side1 ?side2 A47.out).mono ?_); (case side1 => repeat (first | exact (Kd.R_reads' HO_5.out).2.2 | (with_reducible refine Kd.C_alloc ?_ _) | (with_reducible refine Kd.C_drewN ?_ _) | (with_reducible refine Kd.C_drew ?_))); (case side2 => exact (Kd.R_reads' HO_5.out).2.1); rintro e w50 ⟨v293, rfl, ho0, hb⟩; refine ⟨_, rfl, ?_⟩; have n0_ := Aside0.mk (Kd.R_elder' (by (with_reducible repeat (first | apply Kd.R_alloc | apply Kd.R_drewN | apply Kd.R_drew)); (first | exact HO_5.out | (have hz_ := HO_5.out; (try simp only [ob_] at hz_); (try simp only [ob_]); exact hz_))) (Kd.R_base ho0) hb); have n1_ := Aside0.mk (Kd.R_elder' (by (with_reducible repeat (first | apply Kd.R_alloc | apply Kd.R_drewN | apply Kd.R_drew)); (first | exact HO_7.out | (have hz_ := HO_7.out; (try simp only [ob_] at hz_); (try simp only [ob_]); exact hz_))) (Kd.R_base ho0) hb); have n2_ := Aside0.mk (Kd.R_lower (Kd.R_new' (Kd.R_new' ho0 (Kd.R_lt (by (with_reducible repeat (first | apply Kd.R_alloc | apply Kd.R_drewN | apply Kd.R_drew)); (first | exact HO_5.out | (have hz_ := HO_5.out; (try simp only [ob_] at hz_); (try simp only [ob_]); exact hz_))))) (Kd.R_lt (by (with_reducible repeat (first | apply Kd.R_alloc | apply Kd.R_drewN | apply Kd.R_drew)); (first | exact HO_7.out | (have hz_ := HO_7.out; (try simp only [ob_] at hz_); (try simp only [ob_]); exact hz_))))) (below_size (by repeat (first | (with_reducible first | exact HB.out | apply below_alloc | apply pw_below_drewN | apply below_drew1) | exact HB.out)))); have n3_ := Aside0.mk (below_step (by repeat (first | (with_reducible first | exact HB.out | apply below_alloc | apply pw_below_drewN | apply below_drew1) | exact HB.out)) hb); clear HO_5; clear HO_7; clear HB; have HO_5 := n0_; have HO_7 := n1_; have HO294 := n2_; have HB := n3_; clear n0_ n1_ n2_ n3_; (try clear hb); (try clear hb2); (try clear hk); (try clear hi); (try clear ho0); obtain ⟨Ao51, co51, eo51⟩ := Kd.R_slice HO294.out; subst eo51) | ((with_reducible refine gate_callee (f := 66) rfl ?_); refine goesL_ (some 139) rfl rfl Try.func66 (by kernel_rfl) rfl #[.slice Ao51 t291.length co51] rfl (by (try simp only [List.map_toArray, List.map_cons, List.map_nil]); first | done | rfl | (simp only [List.length_drop, List.length_take]; rfl)) ?_; (with_reducible refine (impl_LeastRotation.calls k3 _ _ t291 t295 t296 t297 _ ?side1 ?side2 A48.out).mono ?_); (case side1 => repeat (first | exact (Kd.R_reads' HO294.out).2.2 | (with_reducible refine Kd.C_alloc ?_ _) | (with_reducible refine Kd.C_drewN ?_ _) | (with_reducible refine Kd.C_drew ?_))); (case side2 => exact (Kd.R_reads' HO294.out).2.1); rintro e w52 ⟨v298, rfl, ho0, hb⟩; refine ⟨_, rfl, ?_⟩; have n0_ := Aside0.mk (Kd.R_elder' (by (with_reducible repeat (first | apply Kd.R_alloc | apply Kd.R_drewN | apply Kd.R_drew)); (first | exact HO_5.out | (have hz_ := HO_5.out; (try simp only [ob_] at hz_); (try simp only [ob_]); exact hz_))) (Kd.R_base ho0) hb); have n1_ := Aside0.mk (Kd.R_elder' (by (with_reducible repeat (first | apply Kd.R_alloc | apply Kd.R_drewN | apply Kd.R_drew)); (first | exact HO_7.out | (have hz_ := HO_7.out; (try simp only [ob_] at hz_); (try simp only [ob_]); exact hz_))) (Kd.R_base ho0) hb); have n2_ := Aside0.mk (Kd.R_elder' (by (with_reducible repeat (first | apply Kd.R_alloc | apply Kd.R_drewN | apply Kd.R_drew)); (first | exact HO294.out | (have hz_ := HO294.out; (try simp only [ob_] at hz_); (try simp only [ob_]); exact hz_))) (Kd.R_base ho0) hb); have n3_ := Aside0.mk (Kd.R_lower (Kd.R_new' (Kd.R_new' (Kd.R_new' ho0 (Kd.R_lt (by (with_reducible repeat (first | apply Kd.R_alloc | apply Kd.R_drewN | apply Kd.R_drew)); (first | exact HO_5.out | (have hz_ := HO_5.out; (try simp only [ob_] at hz_); (try simp only [ob_]); exact hz_))))) (Kd.R_lt (by (with_reducible repeat (first | apply Kd.R_alloc | apply Kd.R_drewN | apply Kd.R_drew)); (first | exact HO_7.out | (have hz_ := HO_7.out; (try simp only [ob_] at hz_); (try simp only [ob_]); exact hz_))))) (Kd.R_lt (by (with_reducible repeat (first | apply Kd.R_alloc | apply Kd.R_drewN | apply Kd.R_drew)); (first | exact HO294.out | (have hz_ := HO294.out; (try simp only [ob_] at hz_); (try simp only [ob_]); exact hz_))))) (below_size (by repeat (first | (with_reducible first | exact HB.out | apply below_alloc | apply pw_below_drewN | apply below_drew1) | exact HB.out)))); have n4_ := Aside0.mk (below_step (by repeat (first | (with_reducible first | exact HB.out | apply below_alloc | apply pw_below_drewN | apply below_drew1) | exact HB.out)) hb); clear HO_5; clear HO_7; clear HO294; clear HB; have HO_5 := n0_; have HO_7 := n1_; have HO294 := n2_; have HO299 := n3_; have HB := n4_; clear n0_ n1_ n2_ n3_ n4_; (try clear hb); (try clear hb2); (try clear hk); (try clear hi); (try clear ho0)))
                        (try simp only [Act.put, List.setIfInBounds_toArray, List.set_cons_zero, List.set_cons_succ])
                        go_cut [159] (fun v159 wc => ∃ (kq : Nat) (x159_48 : Bool), v159 = .bool x159_48 ∧ Aside0 (laws_FnLeastRotations.j3 kq t263 t267 t283 t285 x20_3 t291 (t263.length : Int) x128_3 x159_48 = some r) ∧ Aside0 (kq ≤ k3) ∧ Aside0 (Kd.R (Kd.int .i64) 3 wc w.heap.size (fun k_ => some k_ ≠ ((.slice Ao26 t267.length co26) : Value).ownBlock ∧ some k_ ≠ ((.slice Ao51 t291.length co51) : Value).ownBlock) (.slice Ao10 t263.length co10) t263) ∧ Aside0 (Kd.R (Kd.int .i64) 3 wc w.heap.size (fun k_ => some k_ ≠ ((.slice Ao10 t263.length co10) : Value).ownBlock ∧ some k_ ≠ ((.slice Ao51 t291.length co51) : Value).ownBlock) (.slice Ao26 t267.length co26) t267) ∧ Aside0 (Kd.R (Kd.int .i64) 3 wc w.heap.size (fun k_ => some k_ ≠ ((.slice Ao10 t263.length co10) : Value).ownBlock ∧ some k_ ≠ ((.slice Ao26 t267.length co26) : Value).ownBlock) (.slice Ao51 t291.length co51) t291) ∧ Aside0 (Below w.heap.size w wc))
                        case first =>
                          have H := HC49.out
                          clear HC49
                          by_cases c53 : t292 = true
                          · subst c53
                            have H1 : (if t297 = true then ((laws_tSame.f k3 t296 t267).bind fun t300 => (if t300 = true then ((laws_tLess.f k3 t291 t267).bind fun t301 => (laws_FnLeastRotations.j3 k3 t263 t267 t283 t285 x20_3 t291 (t263.length : Int) x128_3 t301)) else (laws_FnLeastRotations.j3 k3 t263 t267 t283 t285 x20_3 t291 (t263.length : Int) x128_3 true))) else (laws_FnLeastRotations.j3 k3 t263 t267 t283 t285 x20_3 t291 (t263.length : Int) x128_3 true)) = some r := by rw [if_pos rfl] at H; exact H
                            clear H
                            have H := H1
                            clear H1
                            by_cases c54 : t297 = true
                            · subst c54
                              have H1 : ((laws_tSame.f k3 t296 t267).bind fun t300 => (if t300 = true then ((laws_tLess.f k3 t291 t267).bind fun t301 => (laws_FnLeastRotations.j3 k3 t263 t267 t283 t285 x20_3 t291 (t263.length : Int) x128_3 t301)) else (laws_FnLeastRotations.j3 k3 t263 t267 t283 t285 x20_3 t291 (t263.length : Int) x128_3 true))) = some r := by rw [if_pos rfl] at H; exact H
                              clear H
                              have H := H1
                              clear H1
                              replace H := Option.bind_eq_some_iff.mp H
                              obtain ⟨t300, A550, H⟩ := H
                              replace H : (if t300 = true then ((laws_tLess.f k3 t291 t267).bind fun t301 => (laws_FnLeastRotations.j3 k3 t263 t267 t283 t285 x20_3 t291 (t263.length : Int) x128_3 t301)) else (laws_FnLeastRotations.j3 k3 t263 t267 t283 t285 x20_3 t291 (t263.length : Int) x128_3 true)) = some r := H
                              have A55 := Aside0.mk A550
                              clear A550
                              by_cases c56 : t300 = true
                              · subst c56
                                have H1 : ((laws_tLess.f k3 t291 t267).bind fun t301 => (laws_FnLeastRotations.j3 k3 t263 t267 t283 t285 x20_3 t291 (t263.length : Int) x128_3 t301)) = some r := by rw [if_pos rfl] at H; exact H
                                clear H
                                have H := H1
                                clear H1
                                replace H := Option.bind_eq_some_iff.mp H
                                obtain ⟨t301, A570, H⟩ := H
                                replace H : (laws_FnLeastRotations.j3 k3 t263 t267 t283 t285 x20_3 t291 (t263.length : Int) x128_3 t301) = some r := H
                                have A57 := Aside0.mk A570
                                clear A570
                                have H' := Aside0.mk H
                                clear H
                                obtain ⟨Ao58, co58, eo58⟩ := Kd.R_slice HO299.out
                                subst eo58
                                go_wp2_with (first | (go_at_call 30; (with_reducible refine (laws_tSame.calls k3 _ _ t296 _ _ t267 true _ ?side1 ?side2 ?side3 ?side4 A55.out).mono ?_); (case side1 => repeat (first | exact (Kd.R_reads' HO299.out).2.2 | (with_reducible refine Kd.C_alloc ?_ _) | (with_reducible refine Kd.C_drewN ?_ _) | (with_reducible refine Kd.C_drew ?_))); (case side2 => exact (Kd.R_reads' HO299.out).2.1); (case side3 => repeat (first | exact (Kd.R_reads' HO_7.out).2.2 | (with_reducible refine Kd.C_alloc ?_ _) | (with_reducible refine Kd.C_drewN ?_ _) | (with_reducible refine Kd.C_drew ?_))); (case side4 => exact (Kd.R_reads' HO_7.out).2.1); rintro e w' ⟨rfl, ⟨nd, rfl⟩⟩) | (go_at_call 61; (with_reducible refine (laws_tLess.calls k3 _ _ t291 _ _ t267 t301 _ ?side1 ?side2 ?side3 ?side4 A57.out).mono ?_); (case side1 => repeat (first | exact (Kd.R_reads' HO294.out).2.2 | (with_reducible refine Kd.C_alloc ?_ _) | (with_reducible refine Kd.C_drewN ?_ _) | (with_reducible refine Kd.C_drew ?_))); (case side2 => exact (Kd.R_reads' HO294.out).2.1); (case side3 => repeat (first | exact (Kd.R_reads' HO_7.out).2.2 | (with_reducible refine Kd.C_alloc ?_ _) | (with_reducible refine Kd.C_drewN ?_ _) | (with_reducible refine Kd.C_drew ?_))); (case side4 => exact (Kd.R_reads' HO_7.out).2.1); rintro e w' ⟨rfl, ⟨nd, rfl⟩⟩))
                                go_meet
                                case rel => exact ⟨_, (t301), (by first | rfl | (simp; done) | (simp [*]; done)), H', ⟨by have := HJ7.out; have := HJ23.out; have := HK3.out; first | omega | exact Nat.le_refl _⟩, ⟨by (with_reducible repeat (first | apply Kd.R_alloc | apply Kd.R_drewN | apply Kd.R_drew)); (first | exact Kd.R_mono HO_5.out (fun _ hk => ⟨hk.1.1, hk.1.2⟩) | (have hz_ := Kd.R_mono HO_5.out (fun _ hk => ⟨hk.1.1, hk.1.2⟩); (try simp only [ob_] at hz_); (try simp only [ob_]); exact hz_))⟩, ⟨by (with_reducible repeat (first | apply Kd.R_alloc | apply Kd.R_drewN | apply Kd.R_drew)); (first | exact Kd.R_mono HO_7.out (fun _ hk => ⟨hk.1.1, hk.1.2⟩) | (have hz_ := Kd.R_mono HO_7.out (fun _ hk => ⟨hk.1.1, hk.1.2⟩); (try simp only [ob_] at hz_); (try simp only [ob_]); exact hz_))⟩, ⟨by (with_reducible repeat (first | apply Kd.R_alloc | apply Kd.R_drewN | apply Kd.R_drew)); (first | exact Kd.R_mono HO294.out (fun _ hk => ⟨hk.1.1.2, hk.1.2⟩) | (have hz_ := Kd.R_mono HO294.out (fun _ hk => ⟨hk.1.1.2, hk.1.2⟩); (try simp only [ob_] at hz_); (try simp only [ob_]); exact hz_))⟩, ⟨by repeat (first | (with_reducible first | exact HB.out | apply below_alloc | apply pw_below_drewN | apply below_drew1) | exact HB.out)⟩⟩
                              · replace c56 := Bool.eq_false_iff.mpr c56
                                subst c56
                                have H1 : (laws_FnLeastRotations.j3 k3 t263 t267 t283 t285 x20_3 t291 (t263.length : Int) x128_3 true) = some r := by rw [if_neg (show ¬ (false = true) by decide)] at H; exact H
                                clear H
                                have H := H1
                                clear H1
                                have H' := Aside0.mk H
                                clear H
                                obtain ⟨Ao59, co59, eo59⟩ := Kd.R_slice HO299.out
                                subst eo59
                                go_wp2_with (first | (go_at_call 30; (with_reducible refine (laws_tSame.calls k3 _ _ t296 _ _ t267 false _ ?side1 ?side2 ?side3 ?side4 A55.out).mono ?_); (case side1 => repeat (first | exact (Kd.R_reads' HO299.out).2.2 | (with_reducible refine Kd.C_alloc ?_ _) | (with_reducible refine Kd.C_drewN ?_ _) | (with_reducible refine Kd.C_drew ?_))); (case side2 => exact (Kd.R_reads' HO299.out).2.1); (case side3 => repeat (first | exact (Kd.R_reads' HO_7.out).2.2 | (with_reducible refine Kd.C_alloc ?_ _) | (with_reducible refine Kd.C_drewN ?_ _) | (with_reducible refine Kd.C_drew ?_))); (case side4 => exact (Kd.R_reads' HO_7.out).2.1); rintro e w' ⟨rfl, ⟨nd, rfl⟩⟩))
                                go_meet
                                case rel => exact ⟨_, (true), (by first | rfl | (simp; done) | (simp [*]; done)), H', ⟨by have := HJ7.out; have := HJ23.out; have := HK3.out; first | omega | exact Nat.le_refl _⟩, ⟨by (with_reducible repeat (first | apply Kd.R_alloc | apply Kd.R_drewN | apply Kd.R_drew)); (first | exact Kd.R_mono HO_5.out (fun _ hk => ⟨hk.1.1, hk.1.2⟩) | (have hz_ := Kd.R_mono HO_5.out (fun _ hk => ⟨hk.1.1, hk.1.2⟩); (try simp only [ob_] at hz_); (try simp only [ob_]); exact hz_))⟩, ⟨by (with_reducible repeat (first | apply Kd.R_alloc | apply Kd.R_drewN | apply Kd.R_drew)); (first | exact Kd.R_mono HO_7.out (fun _ hk => ⟨hk.1.1, hk.1.2⟩) | (have hz_ := Kd.R_mono HO_7.out (fun _ hk => ⟨hk.1.1, hk.1.2⟩); (try simp only [ob_] at hz_); (try simp only [ob_]); exact hz_))⟩, ⟨by (with_reducible repeat (first | apply Kd.R_alloc | apply Kd.R_drewN | apply Kd.R_drew)); (first | exact Kd.R_mono HO294.out (fun _ hk => ⟨hk.1.1.2, hk.1.2⟩) | (have hz_ := Kd.R_mono HO294.out (fun _ hk => ⟨hk.1.1.2, hk.1.2⟩); (try simp only [ob_] at hz_); (try simp only [ob_]); exact hz_))⟩, ⟨by repeat (first | (with_reducible first | exact HB.out | apply below_alloc | apply pw_below_drewN | apply below_drew1) | exact HB.out)⟩⟩
                            · replace c54 := Bool.eq_false_iff.mpr c54
                              subst c54
                              have H1 : (laws_FnLeastRotations.j3 k3 t263 t267 t283 t285 x20_3 t291 (t263.length : Int) x128_3 true) = some r := by rw [if_neg (show ¬ (false = true) by decide)] at H; exact H
                              clear H
                              have H := H1
                              clear H1
                              have H' := Aside0.mk H
                              clear H
                              go_wp2
                              go_meet
                              case rel => exact ⟨_, (true), (by first | rfl | (simp; done) | (simp [*]; done)), H', ⟨by have := HJ7.out; have := HJ23.out; have := HK3.out; first | omega | exact Nat.le_refl _⟩, ⟨by (with_reducible repeat (first | apply Kd.R_alloc | apply Kd.R_drewN | apply Kd.R_drew)); (first | exact Kd.R_mono HO_5.out (fun _ hk => ⟨hk.1.1, hk.1.2⟩) | (have hz_ := Kd.R_mono HO_5.out (fun _ hk => ⟨hk.1.1, hk.1.2⟩); (try simp only [ob_] at hz_); (try simp only [ob_]); exact hz_))⟩, ⟨by (with_reducible repeat (first | apply Kd.R_alloc | apply Kd.R_drewN | apply Kd.R_drew)); (first | exact Kd.R_mono HO_7.out (fun _ hk => ⟨hk.1.1, hk.1.2⟩) | (have hz_ := Kd.R_mono HO_7.out (fun _ hk => ⟨hk.1.1, hk.1.2⟩); (try simp only [ob_] at hz_); (try simp only [ob_]); exact hz_))⟩, ⟨by (with_reducible repeat (first | apply Kd.R_alloc | apply Kd.R_drewN | apply Kd.R_drew)); (first | exact Kd.R_mono HO294.out (fun _ hk => ⟨hk.1.1.2, hk.1.2⟩) | (have hz_ := Kd.R_mono HO294.out (fun _ hk => ⟨hk.1.1.2, hk.1.2⟩); (try simp only [ob_] at hz_); (try simp only [ob_]); exact hz_))⟩, ⟨by repeat (first | (with_reducible first | exact HB.out | apply below_alloc | apply pw_below_drewN | apply below_drew1) | exact HB.out)⟩⟩
                          · replace c53 := Bool.eq_false_iff.mpr c53
                            subst c53
                            have H1 : (laws_FnLeastRotations.j3 k3 t263 t267 t283 t285 x20_3 t291 (t263.length : Int) x128_3 true) = some r := by rw [if_neg (show ¬ (false = true) by decide)] at H; exact H
                            clear H
                            have H := H1
                            clear H1
                            have H' := Aside0.mk H
                            clear H
                            go_wp2
                            go_meet
                            case rel => exact ⟨_, (true), (by first | rfl | (simp; done) | (simp [*]; done)), H', ⟨by have := HJ7.out; have := HJ23.out; have := HK3.out; first | omega | exact Nat.le_refl _⟩, ⟨by (with_reducible repeat (first | apply Kd.R_alloc | apply Kd.R_drewN | apply Kd.R_drew)); (first | exact Kd.R_mono HO_5.out (fun _ hk => ⟨hk.1.1, hk.1.2⟩) | (have hz_ := Kd.R_mono HO_5.out (fun _ hk => ⟨hk.1.1, hk.1.2⟩); (try simp only [ob_] at hz_); (try simp only [ob_]); exact hz_))⟩, ⟨by (with_reducible repeat (first | apply Kd.R_alloc | apply Kd.R_drewN | apply Kd.R_drew)); (first | exact Kd.R_mono HO_7.out (fun _ hk => ⟨hk.1.1, hk.1.2⟩) | (have hz_ := Kd.R_mono HO_7.out (fun _ hk => ⟨hk.1.1, hk.1.2⟩); (try simp only [ob_] at hz_); (try simp only [ob_]); exact hz_))⟩, ⟨by (with_reducible repeat (first | apply Kd.R_alloc | apply Kd.R_drewN | apply Kd.R_drew)); (first | exact Kd.R_mono HO294.out (fun _ hk => ⟨hk.1.1.2, hk.1.2⟩) | (have hz_ := Kd.R_mono HO294.out (fun _ hk => ⟨hk.1.1.2, hk.1.2⟩); (try simp only [ob_] at hz_); (try simp only [ob_]); exact hz_))⟩, ⟨by repeat (first | (with_reducible first | exact HB.out | apply below_alloc | apply pw_below_drewN | apply below_drew1) | exact HB.out)⟩⟩
                        case rest =>
                          clear HC49
                          try clear c1
                          try clear p2
                          try clear c3
                          try clear c4
                          try clear c5
                          try clear c6
                          try clear c7
                          try clear c12
                          try clear c13
                          try clear c13b0
                          try clear c13b1
                          try clear c13b2
                          try clear c14
                          try clear c14b0
                          try clear c14b1
                          try clear c15
                          try clear c18
                          try clear c19
                          try clear c30
                          try clear c31
                          try clear c32
                          try clear c33
                          try clear c34
                          try clear c36
                          try clear c38
                          try clear c38b0
                          try clear c38b1
                          try clear c38b2
                          try clear c40
                          try clear c40b0
                          try clear c40b1
                          try clear c41
                          try clear c41b0
                          try clear c41b1
                          try clear c45
                          try clear c46
                          try clear c46b0
                          try clear c53
                          try clear c54
                          try clear c56
                          try clear p2
                          obtain ⟨kq, x159_48, rfl, HA, HJ48, HO_5, HO_7, HO_22, HB⟩ := hcut
                          cases kq with
                          | zero => exact absurd HA.out (by simp [laws_FnLeastRotations.j3])
                          | succ kj48 =>
                            have H := HA.out
                            clear HA
                            simp only [laws_FnLeastRotations.j3] at H
                            by_cases c60 : x159_48 = true
                            · subst c60
                              have H1 : (some false) = some r := by rw [if_pos rfl] at H; exact H
                              clear H
                              have H := H1
                              clear H1
                              obtain rfl := Option.some.inj H
                              go_wp2
                              go_ret
                              exact ⟨by first | rfl | (simp [errW_none, errW_some] <;> rfl) | (simp [*, errW_none, errW_some] <;> rfl), by repeat (first | (with_reducible first | exact HB.out | apply below_alloc | apply pw_below_drewN | apply below_drew1) | exact HB.out)⟩
                            · replace c60 := Bool.eq_false_iff.mpr c60
                              subst c60
                              have H1 : ((laws_tSame.f kj48 t291 t263).bind fun t302 => (if t302 = true then (laws_FnLeastRotations.l0 kj48 t263 t267 t283 t285 (wrap64 (x20_3 + 1)) (t263.length : Int) (wrap64 (x128_3 + 1))) else (laws_FnLeastRotations.l0 kj48 t263 t267 t283 t285 x20_3 (t263.length : Int) (wrap64 (x128_3 + 1))))) = some r := by rw [if_neg (show ¬ (false = true) by decide)] at H; exact H
                              clear H
                              have H := H1
                              clear H1
                              replace H := Option.bind_eq_some_iff.mp H
                              obtain ⟨t302, A610, H⟩ := H
                              replace H : (if t302 = true then (laws_FnLeastRotations.l0 kj48 t263 t267 t283 t285 (wrap64 (x20_3 + 1)) (t263.length : Int) (wrap64 (x128_3 + 1))) else (laws_FnLeastRotations.l0 kj48 t263 t267 t283 t285 x20_3 (t263.length : Int) (wrap64 (x128_3 + 1)))) = some r := H
                              have A61 := Aside0.mk A610
                              clear A610
                              by_cases c62 : t302 = true
                              · subst c62
                                have H1 : (laws_FnLeastRotations.l0 kj48 t263 t267 t283 t285 (wrap64 (x20_3 + 1)) (t263.length : Int) (wrap64 (x128_3 + 1))) = some r := by rw [if_pos rfl] at H; exact H
                                clear H
                                have H := H1
                                clear H1
                                have H' := Aside0.mk H
                                clear H
                                go_wp2_with (first | ((with_reducible refine gate_callee (f := 30) rfl ?_); refine goesL_ (some 162) rfl rfl Try.func30 (by kernel_rfl) rfl #[.slice Ao51 t291.length co51, .slice Ao10 t263.length co10] rfl (by (try simp only [List.map_toArray, List.map_cons, List.map_nil]); first | done | rfl | (simp only [List.length_drop, List.length_take]; rfl)) ?_; (with_reducible refine (laws_tSame.calls kj48 _ _ t291 _ _ t263 true _ ?side1 ?side2 ?side3 ?side4 A61.out).mono ?_); (case side1 => repeat (first | exact (Kd.R_reads' HO_22.out).2.2 | (with_reducible refine Kd.C_alloc ?_ _) | (with_reducible refine Kd.C_drewN ?_ _) | (with_reducible refine Kd.C_drew ?_))); (case side2 => exact (Kd.R_reads' HO_22.out).2.1); (case side3 => repeat (first | exact (Kd.R_reads' HO_5.out).2.2 | (with_reducible refine Kd.C_alloc ?_ _) | (with_reducible refine Kd.C_drewN ?_ _) | (with_reducible refine Kd.C_drew ?_))); (case side4 => exact (Kd.R_reads' HO_5.out).2.1); rintro e w' ⟨rfl, ⟨nd, rfl⟩⟩; refine ⟨_, rfl, ?_⟩))
                                go_roundg kj48
                                case measure => have := HJ7.out; have := HJ23.out; have := HK3.out; have := HJ48.out; omega
                                case rel => exact ⟨(wrap64 (x20_3 + 1)), (wrap64 (x128_3 + 1)), (by first | rfl | (simp; done) | (simp [*]; done)), (by first | rfl | (simp; done) | (simp [*]; done)), H', ⟨by have := HJ7.out; have := HJ23.out; have := HK3.out; have := HJ48.out; omega⟩, ⟨by (with_reducible repeat (first | apply Kd.R_alloc | apply Kd.R_drewN | apply Kd.R_drew)); (first | exact Kd.R_mono HO_5.out (fun _ hk => hk.1) | (have hz_ := Kd.R_mono HO_5.out (fun _ hk => hk.1); (try simp only [ob_] at hz_); (try simp only [ob_]); exact hz_))⟩, ⟨by (with_reducible repeat (first | apply Kd.R_alloc | apply Kd.R_drewN | apply Kd.R_drew)); (first | exact Kd.R_mono HO_7.out (fun _ hk => hk.1) | (have hz_ := Kd.R_mono HO_7.out (fun _ hk => hk.1); (try simp only [ob_] at hz_); (try simp only [ob_]); exact hz_))⟩, ⟨by repeat (first | (with_reducible first | exact HB.out | apply below_alloc | apply pw_below_drewN | apply below_drew1) | exact HB.out)⟩⟩
                              · replace c62 := Bool.eq_false_iff.mpr c62
                                subst c62
                                have H1 : (laws_FnLeastRotations.l0 kj48 t263 t267 t283 t285 x20_3 (t263.length : Int) (wrap64 (x128_3 + 1))) = some r := by rw [if_neg (show ¬ (false = true) by decide)] at H; exact H
                                clear H
                                have H := H1
                                clear H1
                                have H' := Aside0.mk H
                                clear H
                                go_wp2_with (first | ((with_reducible refine gate_callee (f := 30) rfl ?_); refine goesL_ (some 162) rfl rfl Try.func30 (by kernel_rfl) rfl #[.slice Ao51 t291.length co51, .slice Ao10 t263.length co10] rfl (by (try simp only [List.map_toArray, List.map_cons, List.map_nil]); first | done | rfl | (simp only [List.length_drop, List.length_take]; rfl)) ?_; (with_reducible refine (laws_tSame.calls kj48 _ _ t291 _ _ t263 false _ ?side1 ?side2 ?side3 ?side4 A61.out).mono ?_); (case side1 => repeat (first | exact (Kd.R_reads' HO_22.out).2.2 | (with_reducible refine Kd.C_alloc ?_ _) | (with_reducible refine Kd.C_drewN ?_ _) | (with_reducible refine Kd.C_drew ?_))); (case side2 => exact (Kd.R_reads' HO_22.out).2.1); (case side3 => repeat (first | exact (Kd.R_reads' HO_5.out).2.2 | (with_reducible refine Kd.C_alloc ?_ _) | (with_reducible refine Kd.C_drewN ?_ _) | (with_reducible refine Kd.C_drew ?_))); (case side4 => exact (Kd.R_reads' HO_5.out).2.1); rintro e w' ⟨rfl, ⟨nd, rfl⟩⟩; refine ⟨_, rfl, ?_⟩))
                                go_roundg kj48
                                case measure => have := HJ7.out; have := HJ23.out; have := HK3.out; have := HJ48.out; omega
                                case rel => exact ⟨(x20_3), (wrap64 (x128_3 + 1)), (by first | rfl | (simp; done) | (simp [*]; done)), (by first | rfl | (simp; done) | (simp [*]; done)), H', ⟨by have := HJ7.out; have := HJ23.out; have := HK3.out; have := HJ48.out; omega⟩, ⟨by (with_reducible repeat (first | apply Kd.R_alloc | apply Kd.R_drewN | apply Kd.R_drew)); (first | exact Kd.R_mono HO_5.out (fun _ hk => hk.1) | (have hz_ := Kd.R_mono HO_5.out (fun _ hk => hk.1); (try simp only [ob_] at hz_); (try simp only [ob_]); exact hz_))⟩, ⟨by (with_reducible repeat (first | apply Kd.R_alloc | apply Kd.R_drewN | apply Kd.R_drew)); (first | exact Kd.R_mono HO_7.out (fun _ hk => hk.1) | (have hz_ := Kd.R_mono HO_7.out (fun _ hk => hk.1); (try simp only [ob_] at hz_); (try simp only [ob_]); exact hz_))⟩, ⟨by repeat (first | (with_reducible first | exact HB.out | apply below_alloc | apply pw_below_drewN | apply below_drew1) | exact HB.out)⟩⟩
                      · rw [if_neg c46] at H
                        have c46b0 : decide (x128_3 < (t263.length : Int)) = false := decide_eq_false c46
                        clear c46
                        replace H := Option.bind_eq_some_iff.mp H
                        obtain ⟨⟨t289, t290⟩, A630, H⟩ := H
                        replace H : (if t290 = true then (if (wrap64 (x20_3 * t283)) = (t263.length : Int) then (if t285 = true then (some (t289 == (t283 == (t263.length : Int)))) else (some (t289 == false))) else (some false)) else (some false)) = some r := H
                        have A63 := Aside0.mk A630
                        clear A630
                        by_cases c64 : t290 = true
                        · subst c64
                          have H1 : (if (wrap64 (x20_3 * t283)) = (t263.length : Int) then (if t285 = true then (some (t289 == (t283 == (t263.length : Int)))) else (some (t289 == false))) else (some false)) = some r := by rw [if_pos rfl] at H; exact H
                          clear H
                          have H := H1
                          clear H1
                          by_cases c65 : (wrap64 (x20_3 * t283)) = (t263.length : Int)
                          · rw [if_pos c65] at H
                            have c65b0 : ((wrap64 (x20_3 * t283)) == (t263.length : Int)) = true := beq_iff_eq.mpr c65
                            have c65b1 : ((wrap64 (x20_3 * t283)) != (t263.length : Int)) = false := bne_eq_false_iff_eq.mpr c65
                            clear c65
                            by_cases c66 : t285 = true
                            · subst c66
                              have H1 : (some (t289 == (t283 == (t263.length : Int)))) = some r := by rw [if_pos rfl] at H; exact H
                              clear H
                              have H := H1
                              clear H1
                              obtain rfl := Option.some.inj H
                              go_wp2_with (first | ((with_reducible refine gate_callee (f := 25) rfl ?_); refine goesL_ (some 168) rfl rfl Try.func25 (by kernel_rfl) rfl #[.slice Ao10 t263.length co10] rfl (by (try simp only [List.map_toArray, List.map_cons, List.map_nil]); first | done | rfl | (simp only [List.length_drop, List.length_take]; rfl)) ?_; (with_reducible refine (impl_IsLyndon.calls k3 _ _ t263 t289 true _ ?side1 ?side2 A63.out).mono ?_); (case side1 => repeat (first | exact (Kd.R_reads' HO_5.out).2.2 | (with_reducible refine Kd.C_alloc ?_ _) | (with_reducible refine Kd.C_drewN ?_ _) | (with_reducible refine Kd.C_drew ?_))); (case side2 => exact (Kd.R_reads' HO_5.out).2.1); rintro e w67 ⟨rfl, hb⟩; refine ⟨_, rfl, ?_⟩; have n0_ := Aside0.mk (Kd.R_below (by (with_reducible repeat (first | apply Kd.R_alloc | apply Kd.R_drewN | apply Kd.R_drew)); (first | exact HO_5.out | (have hz_ := HO_5.out; (try simp only [ob_] at hz_); (try simp only [ob_]); exact hz_))) hb); have n1_ := Aside0.mk (Kd.R_below (by (with_reducible repeat (first | apply Kd.R_alloc | apply Kd.R_drewN | apply Kd.R_drew)); (first | exact HO_7.out | (have hz_ := HO_7.out; (try simp only [ob_] at hz_); (try simp only [ob_]); exact hz_))) hb); have n2_ := Aside0.mk (below_step (by repeat (first | (with_reducible first | exact HB.out | apply below_alloc | apply pw_below_drewN | apply below_drew1) | exact HB.out)) hb); clear HO_5; clear HO_7; clear HB; have HO_5 := n0_; have HO_7 := n1_; have HB := n2_; clear n0_ n1_ n2_; (try clear hb); (try clear hb2); (try clear hk); (try clear hi)))
                              go_ret
                              exact ⟨by first | rfl | (simp [errW_none, errW_some] <;> rfl) | (simp [*, errW_none, errW_some] <;> rfl), by repeat (first | (with_reducible first | exact HB.out | apply below_alloc | apply pw_below_drewN | apply below_drew1) | exact HB.out)⟩
                            · replace c66 := Bool.eq_false_iff.mpr c66
                              subst c66
                              have H1 : (some (t289 == false)) = some r := by rw [if_neg (show ¬ (false = true) by decide)] at H; exact H
                              clear H
                              have H := H1
                              clear H1
                              obtain rfl := Option.some.inj H
                              go_wp2_with (first | ((with_reducible refine gate_callee (f := 25) rfl ?_); refine goesL_ (some 168) rfl rfl Try.func25 (by kernel_rfl) rfl #[.slice Ao10 t263.length co10] rfl (by (try simp only [List.map_toArray, List.map_cons, List.map_nil]); first | done | rfl | (simp only [List.length_drop, List.length_take]; rfl)) ?_; (with_reducible refine (impl_IsLyndon.calls k3 _ _ t263 t289 true _ ?side1 ?side2 A63.out).mono ?_); (case side1 => repeat (first | exact (Kd.R_reads' HO_5.out).2.2 | (with_reducible refine Kd.C_alloc ?_ _) | (with_reducible refine Kd.C_drewN ?_ _) | (with_reducible refine Kd.C_drew ?_))); (case side2 => exact (Kd.R_reads' HO_5.out).2.1); rintro e w68 ⟨rfl, hb⟩; refine ⟨_, rfl, ?_⟩; have n0_ := Aside0.mk (Kd.R_below (by (with_reducible repeat (first | apply Kd.R_alloc | apply Kd.R_drewN | apply Kd.R_drew)); (first | exact HO_5.out | (have hz_ := HO_5.out; (try simp only [ob_] at hz_); (try simp only [ob_]); exact hz_))) hb); have n1_ := Aside0.mk (Kd.R_below (by (with_reducible repeat (first | apply Kd.R_alloc | apply Kd.R_drewN | apply Kd.R_drew)); (first | exact HO_7.out | (have hz_ := HO_7.out; (try simp only [ob_] at hz_); (try simp only [ob_]); exact hz_))) hb); have n2_ := Aside0.mk (below_step (by repeat (first | (with_reducible first | exact HB.out | apply below_alloc | apply pw_below_drewN | apply below_drew1) | exact HB.out)) hb); clear HO_5; clear HO_7; clear HB; have HO_5 := n0_; have HO_7 := n1_; have HB := n2_; clear n0_ n1_ n2_; (try clear hb); (try clear hb2); (try clear hk); (try clear hi)))
                              go_ret
                              exact ⟨by first | rfl | (simp [errW_none, errW_some] <;> rfl) | (simp [*, errW_none, errW_some] <;> rfl), by repeat (first | (with_reducible first | exact HB.out | apply below_alloc | apply pw_below_drewN | apply below_drew1) | exact HB.out)⟩
                          · rw [if_neg c65] at H
                            have c65b0 : ((wrap64 (x20_3 * t283)) == (t263.length : Int)) = false := beq_eq_false_iff_ne.mpr c65
                            have c65b1 : ((wrap64 (x20_3 * t283)) != (t263.length : Int)) = true := bne_iff_ne.mpr c65
                            obtain rfl := Option.some.inj H
                            go_wp2_with (first | ((with_reducible refine gate_callee (f := 25) rfl ?_); refine goesL_ (some 168) rfl rfl Try.func25 (by kernel_rfl) rfl #[.slice Ao10 t263.length co10] rfl (by (try simp only [List.map_toArray, List.map_cons, List.map_nil]); first | done | rfl | (simp only [List.length_drop, List.length_take]; rfl)) ?_; (with_reducible refine (impl_IsLyndon.calls k3 _ _ t263 t289 true _ ?side1 ?side2 A63.out).mono ?_); (case side1 => repeat (first | exact (Kd.R_reads' HO_5.out).2.2 | (with_reducible refine Kd.C_alloc ?_ _) | (with_reducible refine Kd.C_drewN ?_ _) | (with_reducible refine Kd.C_drew ?_))); (case side2 => exact (Kd.R_reads' HO_5.out).2.1); rintro e w69 ⟨rfl, hb⟩; refine ⟨_, rfl, ?_⟩; have n0_ := Aside0.mk (Kd.R_below (by (with_reducible repeat (first | apply Kd.R_alloc | apply Kd.R_drewN | apply Kd.R_drew)); (first | exact HO_5.out | (have hz_ := HO_5.out; (try simp only [ob_] at hz_); (try simp only [ob_]); exact hz_))) hb); have n1_ := Aside0.mk (Kd.R_below (by (with_reducible repeat (first | apply Kd.R_alloc | apply Kd.R_drewN | apply Kd.R_drew)); (first | exact HO_7.out | (have hz_ := HO_7.out; (try simp only [ob_] at hz_); (try simp only [ob_]); exact hz_))) hb); have n2_ := Aside0.mk (below_step (by repeat (first | (with_reducible first | exact HB.out | apply below_alloc | apply pw_below_drewN | apply below_drew1) | exact HB.out)) hb); clear HO_5; clear HO_7; clear HB; have HO_5 := n0_; have HO_7 := n1_; have HB := n2_; clear n0_ n1_ n2_; (try clear hb); (try clear hb2); (try clear hk); (try clear hi)))
                            go_ret
                            exact ⟨by first | rfl | (simp [errW_none, errW_some] <;> rfl) | (simp [*, errW_none, errW_some] <;> rfl), by repeat (first | (with_reducible first | exact HB.out | apply below_alloc | apply pw_below_drewN | apply below_drew1) | exact HB.out)⟩
                        · replace c64 := Bool.eq_false_iff.mpr c64
                          subst c64
                          have H1 : (some false) = some r := by rw [if_neg (show ¬ (false = true) by decide)] at H; exact H
                          clear H
                          have H := H1
                          clear H1
                          obtain rfl := Option.some.inj H
                          go_wp2_with (first | ((with_reducible refine gate_callee (f := 25) rfl ?_); refine goesL_ (some 168) rfl rfl Try.func25 (by kernel_rfl) rfl #[.slice Ao10 t263.length co10] rfl (by (try simp only [List.map_toArray, List.map_cons, List.map_nil]); first | done | rfl | (simp only [List.length_drop, List.length_take]; rfl)) ?_; (with_reducible refine (impl_IsLyndon.calls k3 _ _ t263 t289 false _ ?side1 ?side2 A63.out).mono ?_); (case side1 => repeat (first | exact (Kd.R_reads' HO_5.out).2.2 | (with_reducible refine Kd.C_alloc ?_ _) | (with_reducible refine Kd.C_drewN ?_ _) | (with_reducible refine Kd.C_drew ?_))); (case side2 => exact (Kd.R_reads' HO_5.out).2.1); rintro e w70 ⟨rfl, hb⟩; refine ⟨_, rfl, ?_⟩; have n0_ := Aside0.mk (Kd.R_below (by (with_reducible repeat (first | apply Kd.R_alloc | apply Kd.R_drewN | apply Kd.R_drew)); (first | exact HO_5.out | (have hz_ := HO_5.out; (try simp only [ob_] at hz_); (try simp only [ob_]); exact hz_))) hb); have n1_ := Aside0.mk (Kd.R_below (by (with_reducible repeat (first | apply Kd.R_alloc | apply Kd.R_drewN | apply Kd.R_drew)); (first | exact HO_7.out | (have hz_ := HO_7.out; (try simp only [ob_] at hz_); (try simp only [ob_]); exact hz_))) hb); have n2_ := Aside0.mk (below_step (by repeat (first | (with_reducible first | exact HB.out | apply below_alloc | apply pw_below_drewN | apply below_drew1) | exact HB.out)) hb); clear HO_5; clear HO_7; clear HB; have HO_5 := n0_; have HO_7 := n1_; have HB := n2_; clear n0_ n1_ n2_; (try clear hb); (try clear hb2); (try clear hk); (try clear hi)))
                          go_ret
                          exact ⟨by first | rfl | (simp [errW_none, errW_some] <;> rfl) | (simp [*, errW_none, errW_some] <;> rfl), by repeat (first | (with_reducible first | exact HB.out | apply below_alloc | apply pw_below_drewN | apply below_drew1) | exact HB.out)⟩
          · replace c19 := Bool.eq_false_iff.mpr c19
            subst c19
            have H1 : (some true) = some r := by rw [if_neg (show ¬ (false = true) by decide)] at H; exact H
            clear H
            have H := H1
            clear H1
            obtain rfl := Option.some.inj H
            go_wp2
            go_ret
            exact ⟨by first | rfl | (simp [errW_none, errW_some] <;> rfl) | (simp [*, errW_none, errW_some] <;> rfl), by repeat (first | (with_reducible first | exact HB.out | apply below_alloc | apply pw_below_drewN | apply below_drew1) | exact HB.out)⟩

/-- THE ONE PURE STATEMENT of laws_FnLeastRotations: yours. -/
def laws_FnLeastRotations.Pure : Prop := ∀ (l0 : List Int) (l1 : List Int), l0.length ≤ maxLen → l0.length * 1 ≤ 140737488351232 → (∀ x ∈ l0, (Lit.int .u8 x).wf = true) → l1.length ≤ maxLen → l1.length * 1 ≤ 140737488351232 → (∀ x ∈ l1, (Lit.int .u8 x).wf = true) → ∃ k, laws_FnLeastRotations.f k l0 l1 = some true
theorem laws_FnLeastRotations.walk (P : laws_FnLeastRotations.Pure) (a0 : Option Addr) (len0 cap0 : Nat) (z0 : List Int) (a1 : Option Addr) (len1 cap1 : Nat) (z1 : List Int) (w : World) (w0 : (a0 = none ∧ len0 = 0 ∧ cap0 = 0 ∧ z0 = []) ∨ ∃ x, a0 = some x ∧ len0 ≤ cap0 ∧ cap0 ≤ maxLen ∧ z0.length = cap0 ∧ (∀ i, i < z0.length → w.cell? (x.add i) = some (.int .u8 (z0.getD i 0))) ∧ ∀ n ∈ z0, (Lit.int .u8 n).wf = true) (y0 : len0 * 1 ≤ 140737488351232) (w1 : (a1 = none ∧ len1 = 0 ∧ cap1 = 0 ∧ z1 = []) ∨ ∃ x, a1 = some x ∧ len1 ≤ cap1 ∧ cap1 ≤ maxLen ∧ z1.length = cap1 ∧ (∀ i, i < z1.length → w.cell? (x.add i) = some (.int .u8 (z1.getD i 0))) ∧ ∀ n ∈ z1, (Lit.int .u8 n).wf = true) (y1 : len1 * 1 ≤ 140737488351232) :
    Calls Try.prog 12 #[.slice a0 len0 cap0, .slice a1 len1 cap1] w fun e w' => e = .returned (.bool true) ∧ Below w.heap.size w w' := by
  obtain ⟨l0, rfl, hr0, hm0, hw0, hc0⟩ := ReadsInt.ofRowC w0
  obtain ⟨l1, rfl, hr1, hm1, hw1, hc1⟩ := ReadsInt.ofRowC w1
  obtain ⟨k, h⟩ := P l0 l1 hm0 y0 hw0 hm1 y1 hw1
  refine (laws_FnLeastRotations.calls k _ _ l0 _ _ l1 true w (Kd.C_of_reads (d := (0 : Int)) (h1 := fun _ => rfl) hr0) hc0 (Kd.C_of_reads (d := (0 : Int)) (h1 := fun _ => rfl) hr1) hc1 h).mono ?_
  rintro e w' ⟨rfl, hd⟩
  exact ⟨rfl, hd⟩

end Go.Proofs.Ytmcmglclgdgdnaa.HFnLeastRotations
