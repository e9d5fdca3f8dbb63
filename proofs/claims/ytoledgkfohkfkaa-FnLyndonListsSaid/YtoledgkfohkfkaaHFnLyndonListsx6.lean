/- Written by this session's program hprint.py out of the loaded functions: what each function computes, and the proof that the machine's call does just that. -/
import Derived.Test.YtoledgkfohkfkaaHFnLyndonListsx0
import Derived.Test.YtoledgkfohkfkaaHFnLyndonListsx1
import Derived.Test.YtoledgkfohkfkaaHFnLyndonListsx2
import Derived.Test.YtoledgkfohkfkaaHFnLyndonListsx3
import Derived.Test.YtoledgkfohkfkaaHFnLyndonListsx5
namespace Go.Proofs.Ytoledgkfohkfkaa.HFnLyndonLists
open Go.RowKit Go.Proofs.YtoledgkfohkfkaaW.PrintWords Go.Proofs.YtoledgkfohkfkaaW.PrintLast Go.Proofs.YtoledgkfohkfkaaW.PrintMore
attribute [local go_sem] max2_int min2_int max_two min_two max_three min_three max_four min_four   -- for this text's walks alone
set_option linter.unusedVariables false
set_option linter.unusedSimpArgs false

/-! ### laws_FnLyndonLists: function 7 -/
mutual
def laws_FnLyndonLists.j0 : Nat → Int → Int → List (List Int) → Bool → Bool → Option (Bool)
  | 0, _, _, _, _, _ => none
  | k + 1, x5, x6, x7, x10, x52 => if x52 = true then (some false) else (if x10 = true then (laws_FnLyndonLists.l0 k x5 x6 x7 0 1) else (some true))
def laws_FnLyndonLists.l0 : Nat → Int → Int → List (List Int) → Int → Int → Option (Bool)
  | 0, _, _, _, _, _ => none
  | k + 1, x5, x6, x7, x11, x12 => if x12 ≤ x5 then ((impl_CountLyndon.f k x12 x6).bind fun bt294 => (if bt294.2 = true then (laws_FnLyndonLists.l1 k x5 x6 x7 (wrap64 (x11 + bt294.1)) x12 bt294.1 0 x7 (x7.length : Int) 0) else (some false))) else (laws_FnLyndonLists.l2 k x5 x6 x7 x11 x7 (x7.length : Int) 0)
def laws_FnLyndonLists.l1 : Nat → Int → Int → List (List Int) → Int → Int → Int → Int → List (List Int) → Int → Int → Option (Bool)
  | 0, _, _, _, _, _, _, _, _, _, _ => none
  | k + 1, x5, x6, x7, x11, x12, x13, x15, x71, x72, x73 => if x73 < x72 then (if 0 ≤ x73 then (if x73 < (x71.length : Int) then (if ((rd_L2 x71 x73).length : Int) = x12 then (laws_FnLyndonLists.l1 k x5 x6 x7 x11 x12 x13 (wrap64 (x15 + 1)) x71 x72 (wrap64 (x73 + 1))) else (laws_FnLyndonLists.l1 k x5 x6 x7 x11 x12 x13 x15 x71 x72 (wrap64 (x73 + 1)))) else (none)) else (none)) else (if x15 = x13 then (laws_FnLyndonLists.l0 k x5 x6 x7 x11 (wrap64 (x12 + 1))) else (some false))
def laws_FnLyndonLists.l2 : Nat → Int → Int → List (List Int) → Int → List (List Int) → Int → Int → Option (Bool)
  | 0, _, _, _, _, _, _, _ => none
  | k + 1, x5, x6, x7, x11, x87, x88, x89 => if x89 < x88 then (if 0 ≤ x89 then (if x89 < (x87.length : Int) then ((impl_IsLyndon.f k (rd_L2 x87 x89)).bind fun bt298 => ((impl_NextLyndon.f k (rd_L2 x87 x89) x5 x6).bind fun bt300 => (if bt298.2 = true then (if bt298.1 = true then (if (bt300.2 != (decide ((wrap64 (x89 + 1)) < (x7.length : Int)))) = true then (some false) else (if bt300.2 = true then (if 0 ≤ (wrap64 (x89 + 1)) then (if (wrap64 (x89 + 1)) < (x7.length : Int) then ((laws_tSame.f k bt300.1 (rd_L2 x7 (wrap64 (x89 + 1)))).bind fun t305 => (if t305 = true then ((laws_tLess.f k (rd_L2 x87 x89) bt300.1).bind fun t306 => (if t306 = true then (laws_FnLyndonLists.l2 k x5 x6 x7 x11 x87 x88 (wrap64 (x89 + 1))) else (some false))) else (some false))) else (none)) else (none)) else (laws_FnLyndonLists.l2 k x5 x6 x7 x11 x87 x88 (wrap64 (x89 + 1))))) else (some false)) else (some false)))) else (none)) else (none)) else (some (x11 == (x7.length : Int)))
end
def laws_FnLyndonLists.f (k : Nat) (l0 : List Int) (l1 : List Int) : Option (Bool) := (laws_big.f l0 l1).bind fun t282 => (if t282 = true then (some true) else ((spec_DrawLyndonUpTo.f l0).bind fun bt283 => ((impl_LyndonUpTo.f k bt283.1 bt283.2).bind fun bt285 => ((spec_LyndonUpTo.f k bt283.1 bt283.2).bind fun bt289 => (if (bt285.2 != bt289.2) = true then (laws_FnLyndonLists.j0 k bt283.1 bt283.2 bt285.1 bt289.2 true) else ((laws_tSameRows.f k bt285.1 bt289.1).bind fun t293 => (laws_FnLyndonLists.j0 k bt283.1 bt283.2 bt285.1 bt289.2 (!t293))))))))
theorem laws_FnLyndonLists.mono_l : ∀ k, (∀ y0 y1 y2 y3 y4, LeO (laws_FnLyndonLists.j0 k y0 y1 y2 y3 y4) (laws_FnLyndonLists.j0 (k + 1) y0 y1 y2 y3 y4)) ∧ (∀ y0 y1 y2 y3 y4, LeO (laws_FnLyndonLists.l0 k y0 y1 y2 y3 y4) (laws_FnLyndonLists.l0 (k + 1) y0 y1 y2 y3 y4)) ∧ (∀ y0 y1 y2 y3 y4 y5 y6 y7 y8 y9, LeO (laws_FnLyndonLists.l1 k y0 y1 y2 y3 y4 y5 y6 y7 y8 y9) (laws_FnLyndonLists.l1 (k + 1) y0 y1 y2 y3 y4 y5 y6 y7 y8 y9)) ∧ (∀ y0 y1 y2 y3 y4 y5 y6, LeO (laws_FnLyndonLists.l2 k y0 y1 y2 y3 y4 y5 y6) (laws_FnLyndonLists.l2 (k + 1) y0 y1 y2 y3 y4 y5 y6))
  | 0 => ⟨fun _ _ _ _ _ r h => by simp [laws_FnLyndonLists.j0] at h, fun _ _ _ _ _ r h => by simp [laws_FnLyndonLists.l0] at h, fun _ _ _ _ _ _ _ _ _ _ r h => by simp [laws_FnLyndonLists.l1] at h, fun _ _ _ _ _ _ _ r h => by simp [laws_FnLyndonLists.l2] at h⟩
  | k + 1 => by
    obtain ⟨ih0, ih1, ih2, ih3⟩ := laws_FnLyndonLists.mono_l k
    refine ⟨?_, ?_, ?_, ?_⟩
    · intro y0 y1 y2 y3 y4
      unfold laws_FnLyndonLists.j0
      repeat' first
      | (with_reducible exact ih0 _ _ _ _ _)
      | (with_reducible exact ih1 _ _ _ _ _)
      | (with_reducible exact ih2 _ _ _ _ _ _ _ _ _ _)
      | (with_reducible exact ih3 _ _ _ _ _ _ _)
      | (with_reducible exact impl_CountLyndon.mono _ _ _)
      | (with_reducible exact impl_IsLyndon.mono _ _)
      | (with_reducible exact impl_LyndonUpTo.mono _ _ _)
      | (with_reducible exact impl_NextLyndon.mono _ _ _ _)
      | (with_reducible exact laws_tLess.mono _ _ _)
      | (with_reducible exact laws_tSame.mono _ _ _)
      | (with_reducible exact laws_tSameRows.mono _ _ _)
      | (with_reducible exact spec_LyndonUpTo.mono _ _ _)
      | (with_reducible exact LeO.refl _)
      | (with_reducible exact LeO.none _)
      | (with_reducible refine LeO.ite ?_ ?_)
      | (with_reducible refine LeO.bind ?_ (fun _ => ?_))
      | exact ih0 _ _ _ _ _
      | exact ih1 _ _ _ _ _
      | exact ih2 _ _ _ _ _ _ _ _ _ _
      | exact ih3 _ _ _ _ _ _ _
      | exact impl_CountLyndon.mono _ _ _
      | exact impl_IsLyndon.mono _ _
      | exact impl_LyndonUpTo.mono _ _ _
      | exact impl_NextLyndon.mono _ _ _ _
      | exact laws_tLess.mono _ _ _
      | exact laws_tSame.mono _ _ _
      | exact laws_tSameRows.mono _ _ _
      | exact spec_LyndonUpTo.mono _ _ _
      | exact LeO.none _
      | refine LeO.ite ?_ ?_
      | refine LeO.bind ?_ (fun _ => ?_)
    · intro y0 y1 y2 y3 y4
      unfold laws_FnLyndonLists.l0
      repeat' first
      | (with_reducible exact ih0 _ _ _ _ _)
      | (with_reducible exact ih1 _ _ _ _ _)
      | (with_reducible exact ih2 _ _ _ _ _ _ _ _ _ _)
      | (with_reducible exact ih3 _ _ _ _ _ _ _)
      | (with_reducible exact impl_CountLyndon.mono _ _ _)
      | (with_reducible exact impl_IsLyndon.mono _ _)
      | (with_reducible exact impl_LyndonUpTo.mono _ _ _)
      | (with_reducible exact impl_NextLyndon.mono _ _ _ _)
      | (with_reducible exact laws_tLess.mono _ _ _)
      | (with_reducible exact laws_tSame.mono _ _ _)
      | (with_reducible exact laws_tSameRows.mono _ _ _)
      | (with_reducible exact spec_LyndonUpTo.mono _ _ _)
      | (with_reducible exact LeO.refl _)
      | (with_reducible exact LeO.none _)
      | (with_reducible refine LeO.ite ?_ ?_)
      | (with_reducible refine LeO.bind ?_ (fun _ => ?_))
      | exact ih0 _ _ _ _ _
      | exact ih1 _ _ _ _ _
      | exact ih2 _ _ _ _ _ _ _ _ _ _
      | exact ih3 _ _ _ _ _ _ _
      | exact impl_CountLyndon.mono _ _ _
      | exact impl_IsLyndon.mono _ _
      | exact impl_LyndonUpTo.mono _ _ _
      | exact impl_NextLyndon.mono _ _ _ _
      | exact laws_tLess.mono _ _ _
      | exact laws_tSame.mono _ _ _
      | exact laws_tSameRows.mono _ _ _
      | exact spec_LyndonUpTo.mono _ _ _
      | exact LeO.none _
      | refine LeO.ite ?_ ?_
      | refine LeO.bind ?_ (fun _ => ?_)
    · intro y0 y1 y2 y3 y4 y5 y6 y7 y8 y9
      unfold laws_FnLyndonLists.l1
      repeat' first
      | (with_reducible exact ih0 _ _ _ _ _)
      | (with_reducible exact ih1 _ _ _ _ _)
      | (with_reducible exact ih2 _ _ _ _ _ _ _ _ _ _)
      | (with_reducible exact ih3 _ _ _ _ _ _ _)
      | (with_reducible exact impl_CountLyndon.mono _ _ _)
      | (with_reducible exact impl_IsLyndon.mono _ _)
      | (with_reducible exact impl_LyndonUpTo.mono _ _ _)
      | (with_reducible exact impl_NextLyndon.mono _ _ _ _)
      | (with_reducible exact laws_tLess.mono _ _ _)
      | (with_reducible exact laws_tSame.mono _ _ _)
      | (with_reducible exact laws_tSameRows.mono _ _ _)
      | (with_reducible exact spec_LyndonUpTo.mono _ _ _)
      | (with_reducible exact LeO.refl _)
      | (with_reducible exact LeO.none _)
      | (with_reducible refine LeO.ite ?_ ?_)
      | (with_reducible refine LeO.bind ?_ (fun _ => ?_))
      | exact ih0 _ _ _ _ _
      | exact ih1 _ _ _ _ _
      | exact ih2 _ _ _ _ _ _ _ _ _ _
      | exact ih3 _ _ _ _ _ _ _
      | exact impl_CountLyndon.mono _ _ _
      | exact impl_IsLyndon.mono _ _
      | exact impl_LyndonUpTo.mono _ _ _
      | exact impl_NextLyndon.mono _ _ _ _
      | exact laws_tLess.mono _ _ _
      | exact laws_tSame.mono _ _ _
      | exact laws_tSameRows.mono _ _ _
      | exact spec_LyndonUpTo.mono _ _ _
      | exact LeO.none _
      | refine LeO.ite ?_ ?_
      | refine LeO.bind ?_ (fun _ => ?_)
    · intro y0 y1 y2 y3 y4 y5 y6
      unfold laws_FnLyndonLists.l2
      repeat' first
      | (with_reducible exact ih0 _ _ _ _ _)
      | (with_reducible exact ih1 _ _ _ _ _)
      | (with_reducible exact ih2 _ _ _ _ _ _ _ _ _ _)
      | (with_reducible exact ih3 _ _ _ _ _ _ _)
      | (with_reducible exact impl_CountLyndon.mono _ _ _)
      | (with_reducible exact impl_IsLyndon.mono _ _)
      | (with_reducible exact impl_LyndonUpTo.mono _ _ _)
      | (with_reducible exact impl_NextLyndon.mono _ _ _ _)
      | (with_reducible exact laws_tLess.mono _ _ _)
      | (with_reducible exact laws_tSame.mono _ _ _)
      | (with_reducible exact laws_tSameRows.mono _ _ _)
      | (with_reducible exact spec_LyndonUpTo.mono _ _ _)
      | (with_reducible exact LeO.refl _)
      | (with_reducible exact LeO.none _)
      | (with_reducible refine LeO.ite ?_ ?_)
      | (with_reducible refine LeO.bind ?_ (fun _ => ?_))
      | exact ih0 _ _ _ _ _
      | exact ih1 _ _ _ _ _
      | exact ih2 _ _ _ _ _ _ _ _ _ _
      | exact ih3 _ _ _ _ _ _ _
      | exact impl_CountLyndon.mono _ _ _
      | exact impl_IsLyndon.mono _ _
      | exact impl_LyndonUpTo.mono _ _ _
      | exact impl_NextLyndon.mono _ _ _ _
      | exact laws_tLess.mono _ _ _
      | exact laws_tSame.mono _ _ _
      | exact laws_tSameRows.mono _ _ _
      | exact spec_LyndonUpTo.mono _ _ _
      | exact LeO.none _
      | refine LeO.ite ?_ ?_
      | refine LeO.bind ?_ (fun _ => ?_)
theorem laws_FnLyndonLists.mono : ∀ a0 a1 k, LeO (laws_FnLyndonLists.f k a0 a1) (laws_FnLyndonLists.f (k + 1) a0 a1) := by
  intro a0 a1 k
  obtain ⟨ih0, ih1, ih2, ih3⟩ := laws_FnLyndonLists.mono_l k
  unfold laws_FnLyndonLists.f
  repeat' first
      | (with_reducible exact ih0 _ _ _ _ _)
      | (with_reducible exact ih1 _ _ _ _ _)
      | (with_reducible exact ih2 _ _ _ _ _ _ _ _ _ _)
      | (with_reducible exact ih3 _ _ _ _ _ _ _)
      | (with_reducible exact impl_CountLyndon.mono _ _ _)
      | (with_reducible exact impl_IsLyndon.mono _ _)
      | (with_reducible exact impl_LyndonUpTo.mono _ _ _)
      | (with_reducible exact impl_NextLyndon.mono _ _ _ _)
      | (with_reducible exact laws_tLess.mono _ _ _)
      | (with_reducible exact laws_tSame.mono _ _ _)
      | (with_reducible exact laws_tSameRows.mono _ _ _)
      | (with_reducible exact spec_LyndonUpTo.mono _ _ _)
      | (with_reducible exact LeO.refl _)
      | (with_reducible exact LeO.none _)
      | (with_reducible refine LeO.ite ?_ ?_)
      | (with_reducible refine LeO.bind ?_ (fun _ => ?_))
      | exact ih0 _ _ _ _ _
      | exact ih1 _ _ _ _ _
      | exact ih2 _ _ _ _ _ _ _ _ _ _
      | exact ih3 _ _ _ _ _ _ _
      | exact impl_CountLyndon.mono _ _ _
      | exact impl_IsLyndon.mono _ _
      | exact impl_LyndonUpTo.mono _ _ _
      | exact impl_NextLyndon.mono _ _ _ _
      | exact laws_tLess.mono _ _ _
      | exact laws_tSame.mono _ _ _
      | exact laws_tSameRows.mono _ _ _
      | exact spec_LyndonUpTo.mono _ _ _
      | exact LeO.none _
      | refine LeO.ite ?_ ?_
      | refine LeO.bind ?_ (fun _ => ?_)
set_option maxHeartbeats 8000000 in
set_option maxRecDepth 100000 in
theorem laws_FnLyndonLists.calls (k : Nat) (A0 : Option Addr) (c0 : Nat) (l0 : List Int) (A1 : Option Addr) (c1 : Nat) (l1 : List Int) (r : Bool) (w : World) (hr0 : Kd.C (Kd.int .u8) w A0 l0.length l0) (hc0 : l0.length ≤ c0) (hr1 : Kd.C (Kd.int .u8) w A1 l1.length l1) (hc1 : l1.length ≤ c1) (h : laws_FnLyndonLists.f k l0 l1 = some r) :
    Calls Try.prog 7 #[.slice A0 l0.length c0, .slice A1 l1.length c1] w fun e w' => e = .returned (.bool r) ∧ Below w.heap.size w w' := by
  have HR0 := Aside0.mk hr0
  have HC0 := Aside0.mk hc0
  clear hr0 hc0
  have HR1 := Aside0.mk hr1
  have HC1 := Aside0.mk hc1
  clear hr1 hc1
  have HB := Aside0.mk (Below.refl w.heap.size w)
  have H : ((laws_big.f l0 l1).bind fun t282 => (if t282 = true then (some true) else ((spec_DrawLyndonUpTo.f l0).bind fun bt283 => ((impl_LyndonUpTo.f k bt283.1 bt283.2).bind fun bt285 => ((spec_LyndonUpTo.f k bt283.1 bt283.2).bind fun bt289 => (if (bt285.2 != bt289.2) = true then (laws_FnLyndonLists.j0 k bt283.1 bt283.2 bt285.1 bt289.2 true) else ((laws_tSameRows.f k bt285.1 bt289.1).bind fun t293 => (laws_FnLyndonLists.j0 k bt283.1 bt283.2 bt285.1 bt289.2 (!t293))))))))) = some r := h
  clear h
  replace H := Option.bind_eq_some_iff.mp H
  obtain ⟨t282, A30, H⟩ := H
  replace H : (if t282 = true then (some true) else ((spec_DrawLyndonUpTo.f l0).bind fun bt283 => ((impl_LyndonUpTo.f k bt283.1 bt283.2).bind fun bt285 => ((spec_LyndonUpTo.f k bt283.1 bt283.2).bind fun bt289 => (if (bt285.2 != bt289.2) = true then (laws_FnLyndonLists.j0 k bt283.1 bt283.2 bt285.1 bt289.2 true) else ((laws_tSameRows.f k bt285.1 bt289.1).bind fun t293 => (laws_FnLyndonLists.j0 k bt283.1 bt283.2 bt285.1 bt289.2 (!t293)))))))) = some r := H
  have A3 := Aside0.mk A30
  clear A30
  by_cases c4 : t282 = true
  · as_aux_lemma =>
      subst c4
      have H1 : (some true) = some r := by rw [if_pos rfl] at H; exact H
      clear H
      have H := H1
      clear H1
      obtain rfl := Option.some.inj H
      go_enter Try.func7, Try.ntmps7
      go_wp2_with (first | ((with_reducible refine gate_callee (f := 8) rfl ?_); refine goesL_ (some 26) rfl rfl Try.func8 (by kernel_rfl) rfl #[.slice A0 l0.length c0, .slice A1 l1.length c1] rfl (by (try simp only [List.map_toArray, List.map_cons, List.map_nil]); first | done | rfl | (simp only [List.length_drop, List.length_take]; rfl)) ?_; (with_reducible refine (laws_big.calls _ _ l0 _ _ l1 true _ ?side1 ?side2 ?side3 ?side4 A3.out).mono ?_); (case side1 => repeat (first | exact HR0.out | (with_reducible refine Kd.C_alloc ?_ _) | (with_reducible refine Kd.C_drewN ?_ _) | (with_reducible refine Kd.C_drew ?_))); (case side2 => exact HC0.out); (case side3 => repeat (first | exact HR1.out | (with_reducible refine Kd.C_alloc ?_ _) | (with_reducible refine Kd.C_drewN ?_ _) | (with_reducible refine Kd.C_drew ?_))); (case side4 => exact HC1.out); rintro e w' ⟨rfl, ⟨nd, rfl⟩⟩; refine ⟨_, rfl, ?_⟩))
      go_ret
      exact ⟨by first | rfl | (simp [errW_none, errW_some] <;> rfl) | (simp [*, errW_none, errW_some] <;> rfl), by repeat (first | (with_reducible first | exact HB.out | apply below_alloc | apply pw_below_drewN | apply below_drew1) | exact HB.out)⟩
  · replace c4 := Bool.eq_false_iff.mpr c4
    subst c4
    have H1 : ((spec_DrawLyndonUpTo.f l0).bind fun bt283 => ((impl_LyndonUpTo.f k bt283.1 bt283.2).bind fun bt285 => ((spec_LyndonUpTo.f k bt283.1 bt283.2).bind fun bt289 => (if (bt285.2 != bt289.2) = true then (laws_FnLyndonLists.j0 k bt283.1 bt283.2 bt285.1 bt289.2 true) else ((laws_tSameRows.f k bt285.1 bt289.1).bind fun t293 => (laws_FnLyndonLists.j0 k bt283.1 bt283.2 bt285.1 bt289.2 (!t293))))))) = some r := by rw [if_neg (show ¬ (false = true) by decide)] at H; exact H
    clear H
    have H := H1
    clear H1
    replace H := Option.bind_eq_some_iff.mp H
    obtain ⟨⟨t283, t284⟩, A50, H⟩ := H
    replace H : ((impl_LyndonUpTo.f k t283 t284).bind fun bt285 => ((spec_LyndonUpTo.f k t283 t284).bind fun bt289 => (if (bt285.2 != bt289.2) = true then (laws_FnLyndonLists.j0 k t283 t284 bt285.1 bt289.2 true) else ((laws_tSameRows.f k bt285.1 bt289.1).bind fun t293 => (laws_FnLyndonLists.j0 k t283 t284 bt285.1 bt289.2 (!t293)))))) = some r := H
    have A5 := Aside0.mk A50
    clear A50
    replace H := Option.bind_eq_some_iff.mp H
    obtain ⟨⟨t285, t286⟩, A60, H⟩ := H
    replace H : ((spec_LyndonUpTo.f k t283 t284).bind fun bt289 => (if (t286 != bt289.2) = true then (laws_FnLyndonLists.j0 k t283 t284 t285 bt289.2 true) else ((laws_tSameRows.f k t285 bt289.1).bind fun t293 => (laws_FnLyndonLists.j0 k t283 t284 t285 bt289.2 (!t293))))) = some r := H
    have A6 := Aside0.mk A60
    clear A60
    replace H := Option.bind_eq_some_iff.mp H
    obtain ⟨⟨t289, t290⟩, A70, H⟩ := H
    replace H : (if (t286 != t290) = true then (laws_FnLyndonLists.j0 k t283 t284 t285 t290 true) else ((laws_tSameRows.f k t285 t289).bind fun t293 => (laws_FnLyndonLists.j0 k t283 t284 t285 t290 (!t293)))) = some r := H
    have A7 := Aside0.mk A70
    clear A70
    have HC8 := Aside0.mk H
    clear H
    go_enter Try.func7, Try.ntmps7
    go_upto_region 6 with (first | ((with_reducible refine gate_callee (f := 8) rfl ?_); refine goesL_ (some 26) rfl rfl Try.func8 (by kernel_rfl) rfl #[.slice A0 l0.length c0, .slice A1 l1.length c1] rfl (by (try simp only [List.map_toArray, List.map_cons, List.map_nil]); first | done | rfl | (simp only [List.length_drop, List.length_take]; rfl)) ?_; (with_reducible refine (laws_big.calls _ _ l0 _ _ l1 false _ ?side1 ?side2 ?side3 ?side4 A3.out).mono ?_); (case side1 => repeat (first | exact HR0.out | (with_reducible refine Kd.C_alloc ?_ _) | (with_reducible refine Kd.C_drewN ?_ _) | (with_reducible refine Kd.C_drew ?_))); (case side2 => exact HC0.out); (case side3 => repeat (first | exact HR1.out | (with_reducible refine Kd.C_alloc ?_ _) | (with_reducible refine Kd.C_drewN ?_ _) | (with_reducible refine Kd.C_drew ?_))); (case side4 => exact HC1.out); rintro e w' ⟨rfl, ⟨nd, rfl⟩⟩; refine ⟨_, rfl, ?_⟩) | ((with_reducible refine gate_callee (f := 33) rfl ?_); refine goesL_ (some 29) rfl rfl Try.func33 (by kernel_rfl) rfl #[.slice A0 l0.length c0] rfl (by (try simp only [List.map_toArray, List.map_cons, List.map_nil]); first | done | rfl | (simp only [List.length_drop, List.length_take]; rfl)) ?_; (with_reducible refine (spec_DrawLyndonUpTo.calls _ _ l0 t283 t284 _ ?side1 ?side2 A5.out).mono ?_); (case side1 => repeat (first | exact HR0.out | (with_reducible refine Kd.C_alloc ?_ _) | (with_reducible refine Kd.C_drewN ?_ _) | (with_reducible refine Kd.C_drew ?_))); (case side2 => exact HC0.out); rintro e w9 ⟨rfl, hb⟩; refine ⟨_, rfl, ?_⟩; have n0_ := Aside0.mk (below_step (by repeat (first | (with_reducible first | exact HB.out | apply below_alloc | apply pw_below_drewN | apply below_drew1) | exact HB.out)) hb); clear HB; have HB := n0_; clear n0_; (try clear hb); (try clear hb2); (try clear hk); (try clear hi)) | ((with_reducible refine gate_callee (f := 21) rfl ?_); refine goesL_ (some 35) rfl rfl Try.func21 (by kernel_rfl) rfl #[.int .i64 t283, .int .i64 t284] rfl (by (try simp only [List.map_toArray, List.map_cons, List.map_nil]); first | done | rfl | (simp only [List.length_drop, List.length_take]; rfl)) ?_; (with_reducible refine (impl_LyndonUpTo.calls k t283 t284 t285 t286 _ A6.out).mono ?_); rintro e w10 ⟨v287, rfl, ho0, hb⟩; refine ⟨_, rfl, ?_⟩; have n0_ := Aside0.mk (Kd.S_lower ho0 (below_size (by repeat (first | (with_reducible first | exact HB.out | apply below_alloc | apply pw_below_drewN | apply below_drew1) | exact HB.out)))); have n1_ := Aside0.mk (below_step (by repeat (first | (with_reducible first | exact HB.out | apply below_alloc | apply pw_below_drewN | apply below_drew1) | exact HB.out)) hb); clear HB; have HO288 := n0_; have HB := n1_; clear n0_ n1_; (try clear hb); (try clear hb2); (try clear hk); (try clear hi); (try clear ho0)) | ((with_reducible refine gate_callee (f := 20) rfl ?_); refine goesL_ (some 41) rfl rfl Try.func20 (by kernel_rfl) rfl #[.int .i64 t283, .int .i64 t284] rfl (by (try simp only [List.map_toArray, List.map_cons, List.map_nil]); first | done | rfl | (simp only [List.length_drop, List.length_take]; rfl)) ?_; (with_reducible refine (spec_LyndonUpTo.calls k t283 t284 t289 t290 _ A7.out).mono ?_); rintro e w11 ⟨v291, rfl, ho0, hb⟩; refine ⟨_, rfl, ?_⟩; have n0_ := Aside0.mk (Kd.S_elder' (by (with_reducible repeat (first | apply Kd.S_alloc | apply Kd.S_drewN | apply Kd.S_drew)); (first | exact HO288.out | (have hz_ := HO288.out; (try simp only [ob_] at hz_); (try simp only [ob_]); exact hz_))) (Kd.S_base ho0) hb); have n1_ := Aside0.mk (Kd.S_lower (Kd.S_new' ho0 (Kd.S_lt (by (with_reducible repeat (first | apply Kd.S_alloc | apply Kd.S_drewN | apply Kd.S_drew)); (first | exact HO288.out | (have hz_ := HO288.out; (try simp only [ob_] at hz_); (try simp only [ob_]); exact hz_))))) (below_size (by repeat (first | (with_reducible first | exact HB.out | apply below_alloc | apply pw_below_drewN | apply below_drew1) | exact HB.out)))); have n2_ := Aside0.mk (below_step (by repeat (first | (with_reducible first | exact HB.out | apply below_alloc | apply pw_below_drewN | apply below_drew1) | exact HB.out)) hb); clear HO288; clear HB; have HO288 := n0_; have HO292 := n1_; have HB := n2_; clear n0_ n1_ n2_; (try clear hb); (try clear hb2); (try clear hk); (try clear hi); (try clear ho0)))
    (try simp only [Act.put, List.setIfInBounds_toArray, List.set_cons_zero, List.set_cons_succ])
    go_cut [52] (fun v52 wc => ∃ (kq : Nat) (x52_7 : Bool), v52 = .bool x52_7 ∧ Aside0 (laws_FnLyndonLists.j0 kq t283 t284 t285 t290 x52_7 = some r) ∧ Aside0 (kq ≤ k) ∧ Aside0 (Kd.S (Kd.slice 3 (Kd.int .i64)) 24 wc w.heap.size (fun _ => True) v287 t285) ∧ Aside0 (Below w.heap.size w wc))
    case first =>
      have H := HC8.out
      clear HC8
      by_cases c12 : (t286 != t290) = true
      · as_aux_lemma =>
          rw [if_pos c12] at H
          have c12b0 : (t286 != t290) = true := c12
          (try (have c12b1 : decide (t286 = t290) = false := by simpa using c12))
          (try (have c12b2 : (t286 == t290) = false := by simpa using c12))
          (try (have c12b3 : ¬ (t286 = t290) := by simpa using c12))
          clear c12
          (first | rw [c12b0] | (simp only [i64_w, i32_w]; rw [c12b0]) | skip)
          have H' := Aside0.mk H
          clear H
          go_wp2
          go_meet
          case rel => exact ⟨_, (true), (by first | rfl | (simp; done) | (simp [*]; done)), H', ⟨by first | omega | exact Nat.le_refl _⟩, ⟨by (with_reducible repeat (first | apply Kd.S_alloc | apply Kd.S_drewN | apply Kd.S_drew)); exact Kd.S_mono HO288.out (fun _ hk => trivial)⟩, ⟨by repeat (first | (with_reducible first | exact HB.out | apply below_alloc | apply pw_below_drewN | apply below_drew1) | exact HB.out)⟩⟩
      · as_aux_lemma =>
          rw [if_neg c12] at H
          have c12b0 : (t286 != t290) = false := by simpa using c12
          (try (have c12b1 : decide (t286 = t290) = true := by simpa using c12))
          (try (have c12b2 : (t286 == t290) = true := by simpa using c12))
          clear c12
          (first | rw [c12b0] | (simp only [i64_w, i32_w]; rw [c12b0]) | skip)
          replace H := Option.bind_eq_some_iff.mp H
          obtain ⟨t293, A130, H⟩ := H
          replace H : (laws_FnLyndonLists.j0 k t283 t284 t285 t290 (!t293)) = some r := H
          have A13 := Aside0.mk A130
          clear A130
          have H' := Aside0.mk H
          clear H
          obtain ⟨Ao14, co14, eo14⟩ := Kd.S_slice HO288.out
          subst eo14
          obtain ⟨Ao15, co15, eo15⟩ := Kd.S_slice HO292.out
          subst eo15
          go_wp2_with (first | (go_at_call 12; (with_reducible refine (laws_tSameRows.calls k _ _ t285 _ _ t289 t293 _ ?side1 ?side2 ?side3 ?side4 A13.out).mono ?_); (case side1 => repeat (first | exact (Kd.S_reads' HO288.out).2.2 | (with_reducible refine Kd.C_alloc ?_ _) | (with_reducible refine Kd.C_drewN ?_ _) | (with_reducible refine Kd.C_drew ?_))); (case side2 => exact (Kd.S_reads' HO288.out).2.1); (case side3 => repeat (first | exact (Kd.S_reads' HO292.out).2.2 | (with_reducible refine Kd.C_alloc ?_ _) | (with_reducible refine Kd.C_drewN ?_ _) | (with_reducible refine Kd.C_drew ?_))); (case side4 => exact (Kd.S_reads' HO292.out).2.1); rintro e w' ⟨rfl, ⟨nd, rfl⟩⟩))
          go_meet
          case rel => exact ⟨_, (!t293), (by first | rfl | (simp; done) | (simp [*]; done)), H', ⟨by first | omega | exact Nat.le_refl _⟩, ⟨by (with_reducible repeat (first | apply Kd.S_alloc | apply Kd.S_drewN | apply Kd.S_drew)); exact Kd.S_mono HO288.out (fun _ hk => trivial)⟩, ⟨by repeat (first | (with_reducible first | exact HB.out | apply below_alloc | apply pw_below_drewN | apply below_drew1) | exact HB.out)⟩⟩
    case rest =>
      clear HC8
      try clear c1
      try clear c2
      try clear p2
      try clear c3
      try clear c4
      try clear c7
      try clear c8
      try clear c12
      try clear c12b0
      try clear c12b1
      try clear c12b2
      obtain ⟨kq, x52_7, rfl, HA, HJ7, HO_7, HB⟩ := hcut
      cases kq with
      | zero => exact absurd HA.out (by simp [laws_FnLyndonLists.j0])
      | succ kj7 =>
        have H := HA.out
        clear HA
        simp only [laws_FnLyndonLists.j0] at H
        by_cases c16 : x52_7 = true
        · as_aux_lemma =>
            subst c16
            have H1 : (some false) = some r := by rw [if_pos rfl] at H; exact H
            clear H
            have H := H1
            clear H1
            obtain rfl := Option.some.inj H
            go_wp2
            go_ret
            exact ⟨by first | rfl | (simp [errW_none, errW_some] <;> rfl) | (simp [*, errW_none, errW_some] <;> rfl), by repeat (first | (with_reducible first | exact HB.out | apply below_alloc | apply pw_below_drewN | apply below_drew1) | exact HB.out)⟩
        · replace c16 := Bool.eq_false_iff.mpr c16
          subst c16
          have H1 : (if t290 = true then (laws_FnLyndonLists.l0 kj7 t283 t284 t285 0 1) else (some true)) = some r := by rw [if_neg (show ¬ (false = true) by decide)] at H; exact H
          clear H
          have H := H1
          clear H1
          by_cases c17 : t290 = true
          · subst c17
            have H1 : (laws_FnLyndonLists.l0 kj7 t283 t284 t285 0 1) = some r := by rw [if_pos rfl] at H; exact H
            clear H
            have H := H1
            clear H1
            have H' := Aside0.mk H
            clear H
            go_wp2
            go_loopg [11, 12] kj7 (fun kq v11 v12 w' => ∃ (x11_2 : Int) (x12_2 : Int), v11 = .int .i64 x11_2 ∧ v12 = .int .i64 x12_2 ∧ Aside0 (laws_FnLyndonLists.l0 kq t283 t284 t285 x11_2 x12_2 = some r) ∧ Aside0 (kq ≤ kj7) ∧ Aside0 (Kd.S (Kd.slice 3 (Kd.int .i64)) 24 w' w.heap.size (fun _ => True) v287 t285) ∧ Aside0 (Below w.heap.size w w'))
            case atStart => exact ⟨(0), (1), (by first | rfl | (simp; done) | (simp [*]; done)), (by first | rfl | (simp; done) | (simp [*]; done)), H', ⟨Nat.le_refl _⟩, ⟨by (with_reducible repeat (first | apply Kd.S_alloc | apply Kd.S_drewN | apply Kd.S_drew)); (first | exact HO_7.out | (have hz_ := HO_7.out; (try simp only [ob_] at hz_); (try simp only [ob_]); exact hz_))⟩, ⟨by repeat (first | (with_reducible first | exact HB.out | apply below_alloc | apply pw_below_drewN | apply below_drew1) | exact HB.out)⟩⟩
            case round =>
              clear H'
              try clear c1
              try clear c2
              try clear p2
              try clear c3
              try clear c4
              try clear c7
              try clear c8
              try clear c12
              try clear c12b0
              try clear c12b1
              try clear c12b2
              try clear c16
              try clear c17
              try clear p2
              obtain ⟨x11_2, x12_2, rfl, rfl, HA, HK2, HO_7, HB⟩ := hrel
              cases gk with
              | zero => exact absurd HA.out (by simp [laws_FnLyndonLists.l0])
              | succ k2 =>
                have H := HA.out
                clear HA
                simp only [laws_FnLyndonLists.l0] at H
                by_cases c18 : x12_2 ≤ t283
                · rw [if_pos c18] at H
                  have c18b0 : decide (x12_2 ≤ t283) = true := decide_eq_true c18
                  clear c18
                  replace H := Option.bind_eq_some_iff.mp H
                  obtain ⟨⟨t294, t295⟩, A190, H⟩ := H
                  replace H : (if t295 = true then (laws_FnLyndonLists.l1 k2 t283 t284 t285 (wrap64 (x11_2 + t294)) x12_2 t294 0 t285 (t285.length : Int) 0) else (some false)) = some r := H
                  have A19 := Aside0.mk A190
                  clear A190
                  by_cases c20 : t295 = true
                  · subst c20
                    have H1 : (laws_FnLyndonLists.l1 k2 t283 t284 t285 (wrap64 (x11_2 + t294)) x12_2 t294 0 t285 (t285.length : Int) 0) = some r := by rw [if_pos rfl] at H; exact H
                    clear H
                    have H := H1
                    clear H1
                    have H' := Aside0.mk H
                    clear H
                    go_wp2_with (first | ((with_reducible refine gate_callee (f := 34) rfl ?_); refine goesL_ (some 63) rfl rfl Try.func34 (by kernel_rfl) rfl #[.int .i64 x12_2, .int .i64 t284] rfl (by (try simp only [List.map_toArray, List.map_cons, List.map_nil]); first | done | rfl | (simp only [List.length_drop, List.length_take]; rfl)) ?_; (with_reducible refine (impl_CountLyndon.calls k2 x12_2 t284 t294 true _ A19.out).mono ?_); rintro e w' ⟨rfl, ⟨nd, rfl⟩⟩; refine ⟨_, rfl, ?_⟩; obtain ⟨Ao21, co21, eo21⟩ := Kd.S_slice HO_7.out; subst eo21))
                    go_loopg [15, 73] k2 (fun kq v15 v73 w' => ∃ (x15_3 : Int) (x73_3 : Int), v15 = .int .i64 x15_3 ∧ v73 = .int .i64 x73_3 ∧ Aside0 (laws_FnLyndonLists.l1 kq t283 t284 t285 (wrap64 (x11_2 + t294)) x12_2 t294 x15_3 t285 (t285.length : Int) x73_3 = some r) ∧ Aside0 (kq ≤ k2) ∧ Aside0 (Kd.S (Kd.slice 3 (Kd.int .i64)) 24 w' w.heap.size (fun _ => True) (.slice Ao21 t285.length co21) t285) ∧ Aside0 (Kd.S (Kd.slice 3 (Kd.int .i64)) 24 w' w.heap.size (fun _ => True) (.slice Ao21 t285.length co21) t285) ∧ Aside0 (Below w.heap.size w w'))
                    case atStart => exact ⟨(0), (0), (by first | rfl | (simp; done) | (simp [*]; done)), (by first | rfl | (simp; done) | (simp [*]; done)), H', ⟨Nat.le_refl _⟩, ⟨by (with_reducible repeat (first | apply Kd.S_alloc | apply Kd.S_drewN | apply Kd.S_drew)); (first | exact HO_7.out | (have hz_ := HO_7.out; (try simp only [ob_] at hz_); (try simp only [ob_]); exact hz_))⟩, ⟨by (with_reducible repeat (first | apply Kd.S_alloc | apply Kd.S_drewN | apply Kd.S_drew)); (first | exact HO_7.out | (have hz_ := HO_7.out; (try simp only [ob_] at hz_); (try simp only [ob_]); exact hz_))⟩, ⟨by repeat (first | (with_reducible first | exact HB.out | apply below_alloc | apply pw_below_drewN | apply below_drew1) | exact HB.out)⟩⟩
                    case round =>
                      clear H'
                      try clear c1
                      try clear c2
                      try clear p2
                      try clear c3
                      try clear c4
                      try clear p6
                      try clear c7
                      try clear c8
                      try clear c12
                      try clear c12b0
                      try clear c12b1
                      try clear c12b2
                      try clear c16
                      try clear c17
                      try clear c18
                      try clear c18b0
                      try clear c20
                      try clear c21
                      try clear p2
                      obtain ⟨x15_3, x73_3, rfl, rfl, HA, HK3, HO_7, HO_71, HB⟩ := hrel
                      cases gk with
                      | zero => exact absurd HA.out (by simp [laws_FnLyndonLists.l1])
                      | succ k3 =>
                        have H := HA.out
                        clear HA
                        simp only [laws_FnLyndonLists.l1] at H
                        by_cases c22 : x73_3 < (t285.length : Int)
                        · rw [if_pos c22] at H
                          have c22b0 : decide (x73_3 < (t285.length : Int)) = true := decide_eq_true c22
                          clear c22
                          by_cases c23 : 0 ≤ x73_3
                          · rw [if_pos c23] at H
                            have c23b0 : decide (0 ≤ x73_3) = true := decide_eq_true c23
                            clear c23
                            by_cases c24 : x73_3 < (t285.length : Int)
                            · rw [if_pos c24] at H
                              have c24b0 : decide (x73_3 < (t285.length : Int)) = true := decide_eq_true c24
                              clear c24
                              by_cases c25 : ((rd_L2 t285 x73_3).length : Int) = x12_2
                              · as_aux_lemma =>
                                  rw [if_pos c25] at H
                                  have c25b0 : (((rd_L2 t285 x73_3).length : Int) == x12_2) = true := beq_iff_eq.mpr c25
                                  have c25b1 : (((rd_L2 t285 x73_3).length : Int) != x12_2) = false := bne_eq_false_iff_eq.mpr c25
                                  clear c25
                                  have H' := Aside0.mk H
                                  clear H
                                  have p296 : 0 ≤ (x73_3 : Int) := of_decide_eq_true (by first | (with_reducible assumption) | assumption)
                                  have q296 : x73_3 < (t285.length : Int) := of_decide_eq_true (by first | (with_reducible assumption) | assumption)
                                  obtain ⟨ad296, A296_0, c296_0, e296, hx296_0, hl296_0, hi296_0⟩ := at_L2 (Kd.S_reads' HO_71.out).2.2 x73_3 p296 q296
                                  cases e296
                                  obtain ⟨ce296, hce296, hMe296, hcc296⟩ := Kd.S_get HO_71.out [] x73_3 p296 (by first | exact q296 | exact of_decide_eq_true (by first | (with_reducible assumption) | assumption) | (have e_ := (Kd.S_reads' HO_71.out).1; omega))
                                  obtain ⟨ve296_0, rfl, ge296_0⟩ := hMe296
                                  have hv296_0 := hcc296 0 _ rfl
                                  rw [Nat.add_zero, show ((Kd.slice 3 (Kd.int .i64))).sz = 1 from rfl, Nat.mul_one] at hv296_0
                                  replace hv296_0 := Option.some.inj (hv296_0.symm.trans hx296_0)
                                  rw [hv296_0] at ge296_0
                                  have HL296_0 := Aside0.mk (show Kd.R (Kd.int .i64) 3 _ _ _ _ (rd_L2 t285 x73_3) from ge296_0)
                                  clear hv296_0 ge296_0
                                  clear hcc296 hce296
                                  have HR296_0 := Aside0.mk hi296_0
                                  have HC296_0 := Aside0.mk hl296_0
                                  clear hi296_0 hl296_0
                                  replace p296 := eq_true p296
                                  replace q296 := eq_true q296
                                  go_wp2
                                  go_roundg k3
                                  case measure => have := HJ7.out; have := HK2.out; have := HK3.out; omega
                                  case rel => exact ⟨(wrap64 (x15_3 + 1)), (wrap64 (x73_3 + 1)), (by first | rfl | (simp; done) | (simp [*]; done)), (by first | rfl | (simp; done) | (simp [*]; done)), H', ⟨by have := HJ7.out; have := HK2.out; have := HK3.out; omega⟩, ⟨by (with_reducible repeat (first | apply Kd.S_alloc | apply Kd.S_drewN | apply Kd.S_drew)); (first | exact HO_7.out | (have hz_ := HO_7.out; (try simp only [ob_] at hz_); (try simp only [ob_]); exact hz_))⟩, ⟨by (with_reducible repeat (first | apply Kd.S_alloc | apply Kd.S_drewN | apply Kd.S_drew)); (first | exact HO_71.out | (have hz_ := HO_71.out; (try simp only [ob_] at hz_); (try simp only [ob_]); exact hz_))⟩, ⟨by repeat (first | (with_reducible first | exact HB.out | apply below_alloc | apply pw_below_drewN | apply below_drew1) | exact HB.out)⟩⟩
                              · as_aux_lemma =>
                                  rw [if_neg c25] at H
                                  have c25b0 : (((rd_L2 t285 x73_3).length : Int) == x12_2) = false := beq_eq_false_iff_ne.mpr c25
                                  have c25b1 : (((rd_L2 t285 x73_3).length : Int) != x12_2) = true := bne_iff_ne.mpr c25
                                  have H' := Aside0.mk H
                                  clear H
                                  have p296 : 0 ≤ (x73_3 : Int) := of_decide_eq_true (by first | (with_reducible assumption) | assumption)
                                  have q296 : x73_3 < (t285.length : Int) := of_decide_eq_true (by first | (with_reducible assumption) | assumption)
                                  obtain ⟨ad296, A296_0, c296_0, e296, hx296_0, hl296_0, hi296_0⟩ := at_L2 (Kd.S_reads' HO_71.out).2.2 x73_3 p296 q296
                                  cases e296
                                  obtain ⟨ce296, hce296, hMe296, hcc296⟩ := Kd.S_get HO_71.out [] x73_3 p296 (by first | exact q296 | exact of_decide_eq_true (by first | (with_reducible assumption) | assumption) | (have e_ := (Kd.S_reads' HO_71.out).1; omega))
                                  obtain ⟨ve296_0, rfl, ge296_0⟩ := hMe296
                                  have hv296_0 := hcc296 0 _ rfl
                                  rw [Nat.add_zero, show ((Kd.slice 3 (Kd.int .i64))).sz = 1 from rfl, Nat.mul_one] at hv296_0
                                  replace hv296_0 := Option.some.inj (hv296_0.symm.trans hx296_0)
                                  rw [hv296_0] at ge296_0
                                  have HL296_0 := Aside0.mk (show Kd.R (Kd.int .i64) 3 _ _ _ _ (rd_L2 t285 x73_3) from ge296_0)
                                  clear hv296_0 ge296_0
                                  clear hcc296 hce296
                                  have HR296_0 := Aside0.mk hi296_0
                                  have HC296_0 := Aside0.mk hl296_0
                                  clear hi296_0 hl296_0
                                  replace p296 := eq_true p296
                                  replace q296 := eq_true q296
                                  go_wp2
                                  go_roundg k3
                                  case measure => have := HJ7.out; have := HK2.out; have := HK3.out; omega
                                  case rel => exact ⟨(x15_3), (wrap64 (x73_3 + 1)), (by first | rfl | (simp; done) | (simp [*]; done)), (by first | rfl | (simp; done) | (simp [*]; done)), H', ⟨by have := HJ7.out; have := HK2.out; have := HK3.out; omega⟩, ⟨by (with_reducible repeat (first | apply Kd.S_alloc | apply Kd.S_drewN | apply Kd.S_drew)); (first | exact HO_7.out | (have hz_ := HO_7.out; (try simp only [ob_] at hz_); (try simp only [ob_]); exact hz_))⟩, ⟨by (with_reducible repeat (first | apply Kd.S_alloc | apply Kd.S_drewN | apply Kd.S_drew)); (first | exact HO_71.out | (have hz_ := HO_71.out; (try simp only [ob_] at hz_); (try simp only [ob_]); exact hz_))⟩, ⟨by repeat (first | (with_reducible first | exact HB.out | apply below_alloc | apply pw_below_drewN | apply below_drew1) | exact HB.out)⟩⟩
                            · rw [if_neg c24] at H
                              exact absurd H (by simp)
                          · rw [if_neg c23] at H
                            exact absurd H (by simp)
                        · rw [if_neg c22] at H
                          have c22b0 : decide (x73_3 < (t285.length : Int)) = false := decide_eq_false c22
                          clear c22
                          by_cases c26 : x15_3 = t294
                          · as_aux_lemma =>
                              rw [if_pos c26] at H
                              have c26b0 : (x15_3 == t294) = true := beq_iff_eq.mpr c26
                              have c26b1 : (x15_3 != t294) = false := bne_eq_false_iff_eq.mpr c26
                              clear c26
                              have H' := Aside0.mk H
                              clear H
                              go_wp2
                              go_roundg k3
                              case measure => have := HJ7.out; have := HK2.out; have := HK3.out; omega
                              case rel => exact ⟨((wrap64 (x11_2 + t294))), (wrap64 (x12_2 + 1)), (by first | rfl | (simp; done) | (simp [*]; done)), (by first | rfl | (simp; done) | (simp [*]; done)), H', ⟨by have := HJ7.out; have := HK2.out; have := HK3.out; omega⟩, ⟨by (with_reducible repeat (first | apply Kd.S_alloc | apply Kd.S_drewN | apply Kd.S_drew)); (first | exact HO_7.out | (have hz_ := HO_7.out; (try simp only [ob_] at hz_); (try simp only [ob_]); exact hz_))⟩, ⟨by repeat (first | (with_reducible first | exact HB.out | apply below_alloc | apply pw_below_drewN | apply below_drew1) | exact HB.out)⟩⟩
                          · as_aux_lemma =>
                              rw [if_neg c26] at H
                              have c26b0 : (x15_3 == t294) = false := beq_eq_false_iff_ne.mpr c26
                              have c26b1 : (x15_3 != t294) = true := bne_iff_ne.mpr c26
                              obtain rfl := Option.some.inj H
                              go_wp2
                              go_ret
                              exact ⟨by first | rfl | (simp [errW_none, errW_some] <;> rfl) | (simp [*, errW_none, errW_some] <;> rfl), by repeat (first | (with_reducible first | exact HB.out | apply below_alloc | apply pw_below_drewN | apply below_drew1) | exact HB.out)⟩
                  · as_aux_lemma =>
                      replace c20 := Bool.eq_false_iff.mpr c20
                      subst c20
                      have H1 : (some false) = some r := by rw [if_neg (show ¬ (false = true) by decide)] at H; exact H
                      clear H
                      have H := H1
                      clear H1
                      obtain rfl := Option.some.inj H
                      go_wp2_with (first | ((with_reducible refine gate_callee (f := 34) rfl ?_); refine goesL_ (some 63) rfl rfl Try.func34 (by kernel_rfl) rfl #[.int .i64 x12_2, .int .i64 t284] rfl (by (try simp only [List.map_toArray, List.map_cons, List.map_nil]); first | done | rfl | (simp only [List.length_drop, List.length_take]; rfl)) ?_; (with_reducible refine (impl_CountLyndon.calls k2 x12_2 t284 t294 false _ A19.out).mono ?_); rintro e w' ⟨rfl, ⟨nd, rfl⟩⟩; refine ⟨_, rfl, ?_⟩))
                      go_ret
                      exact ⟨by first | rfl | (simp [errW_none, errW_some] <;> rfl) | (simp [*, errW_none, errW_some] <;> rfl), by repeat (first | (with_reducible first | exact HB.out | apply below_alloc | apply pw_below_drewN | apply below_drew1) | exact HB.out)⟩
                · rw [if_neg c18] at H
                  have c18b0 : decide (x12_2 ≤ t283) = false := decide_eq_false c18
                  clear c18
                  have H' := Aside0.mk H
                  clear H
                  obtain ⟨Ao27, co27, eo27⟩ := Kd.S_slice HO_7.out
                  subst eo27
                  go_wp2
                  go_loopg [89] k2 (fun kq v89 w' => ∃ (x89_3 : Int), v89 = .int .i64 x89_3 ∧ Aside0 (laws_FnLyndonLists.l2 kq t283 t284 t285 x11_2 t285 (t285.length : Int) x89_3 = some r) ∧ Aside0 (kq ≤ k2) ∧ Aside0 (Kd.S (Kd.slice 3 (Kd.int .i64)) 24 w' w.heap.size (fun _ => True) (.slice Ao27 t285.length co27) t285) ∧ Aside0 (Kd.S (Kd.slice 3 (Kd.int .i64)) 24 w' w.heap.size (fun _ => True) (.slice Ao27 t285.length co27) t285) ∧ Aside0 (Below w.heap.size w w'))
                  case atStart => exact ⟨(0), (by first | rfl | (simp; done) | (simp [*]; done)), H', ⟨Nat.le_refl _⟩, ⟨by (with_reducible repeat (first | apply Kd.S_alloc | apply Kd.S_drewN | apply Kd.S_drew)); (first | exact HO_7.out | (have hz_ := HO_7.out; (try simp only [ob_] at hz_); (try simp only [ob_]); exact hz_))⟩, ⟨by (with_reducible repeat (first | apply Kd.S_alloc | apply Kd.S_drewN | apply Kd.S_drew)); (first | exact HO_7.out | (have hz_ := HO_7.out; (try simp only [ob_] at hz_); (try simp only [ob_]); exact hz_))⟩, ⟨by repeat (first | (with_reducible first | exact HB.out | apply below_alloc | apply pw_below_drewN | apply below_drew1) | exact HB.out)⟩⟩
                  case round =>
                    clear H'
                    try clear c1
                    try clear c2
                    try clear p2
                    try clear q2
                    try clear hx2
                    try clear c3
                    try clear c4
                    try clear p6
                    try clear c7
                    try clear c8
                    try clear c12
                    try clear c12b0
                    try clear c12b1
                    try clear c12b2
                    try clear c16
                    try clear c17
                    try clear c18
                    try clear c18b0
                    try clear c20
                    try clear c21
                    try clear c22
                    try clear c22b0
                    try clear c23
                    try clear c23b0
                    try clear c24
                    try clear c24b0
                    try clear c25
                    try clear c25b0
                    try clear c25b1
                    try clear c26
                    try clear c26b0
                    try clear c26b1
                    try clear hx296_0
                    try clear p2
                    try clear p296
                    try clear p6
                    try clear q296
                    obtain ⟨x89_3, rfl, HA, HK3, HO_7, HO_87, HB⟩ := hrel
                    cases gk with
                    | zero => exact absurd HA.out (by simp [laws_FnLyndonLists.l2])
                    | succ k3 =>
                      have H := HA.out
                      clear HA
                      simp only [laws_FnLyndonLists.l2] at H
                      by_cases c28 : x89_3 < (t285.length : Int)
                      · rw [if_pos c28] at H
                        have c28b0 : decide (x89_3 < (t285.length : Int)) = true := decide_eq_true c28
                        clear c28
                        by_cases c29 : 0 ≤ x89_3
                        · rw [if_pos c29] at H
                          have c29b0 : decide (0 ≤ x89_3) = true := decide_eq_true c29
                          clear c29
                          by_cases c30 : x89_3 < (t285.length : Int)
                          · rw [if_pos c30] at H
                            have c30b0 : decide (x89_3 < (t285.length : Int)) = true := decide_eq_true c30
                            clear c30
                            replace H := Option.bind_eq_some_iff.mp H
                            obtain ⟨⟨t298, t299⟩, A310, H⟩ := H
                            replace H : ((impl_NextLyndon.f k3 (rd_L2 t285 x89_3) t283 t284).bind fun bt300 => (if t299 = true then (if t298 = true then (if (bt300.2 != (decide ((wrap64 (x89_3 + 1)) < (t285.length : Int)))) = true then (some false) else (if bt300.2 = true then (if 0 ≤ (wrap64 (x89_3 + 1)) then (if (wrap64 (x89_3 + 1)) < (t285.length : Int) then ((laws_tSame.f k3 bt300.1 (rd_L2 t285 (wrap64 (x89_3 + 1)))).bind fun t305 => (if t305 = true then ((laws_tLess.f k3 (rd_L2 t285 x89_3) bt300.1).bind fun t306 => (if t306 = true then (laws_FnLyndonLists.l2 k3 t283 t284 t285 x11_2 t285 (t285.length : Int) (wrap64 (x89_3 + 1))) else (some false))) else (some false))) else (none)) else (none)) else (laws_FnLyndonLists.l2 k3 t283 t284 t285 x11_2 t285 (t285.length : Int) (wrap64 (x89_3 + 1))))) else (some false)) else (some false))) = some r := H
                            have A31 := Aside0.mk A310
                            clear A310
                            replace H := Option.bind_eq_some_iff.mp H
                            obtain ⟨⟨t300, t301⟩, A320, H⟩ := H
                            replace H : (if t299 = true then (if t298 = true then (if (t301 != (decide ((wrap64 (x89_3 + 1)) < (t285.length : Int)))) = true then (some false) else (if t301 = true then (if 0 ≤ (wrap64 (x89_3 + 1)) then (if (wrap64 (x89_3 + 1)) < (t285.length : Int) then ((laws_tSame.f k3 t300 (rd_L2 t285 (wrap64 (x89_3 + 1)))).bind fun t305 => (if t305 = true then ((laws_tLess.f k3 (rd_L2 t285 x89_3) t300).bind fun t306 => (if t306 = true then (laws_FnLyndonLists.l2 k3 t283 t284 t285 x11_2 t285 (t285.length : Int) (wrap64 (x89_3 + 1))) else (some false))) else (some false))) else (none)) else (none)) else (laws_FnLyndonLists.l2 k3 t283 t284 t285 x11_2 t285 (t285.length : Int) (wrap64 (x89_3 + 1))))) else (some false)) else (some false)) = some r := H
                            have A32 := Aside0.mk A320
                            clear A320
                            by_cases c33 : t299 = true
                            · subst c33
                              have H1 : (if t298 = true then (if (t301 != (decide ((wrap64 (x89_3 + 1)) < (t285.length : Int)))) = true then (some false) else (if t301 = true then (if 0 ≤ (wrap64 (x89_3 + 1)) then (if (wrap64 (x89_3 + 1)) < (t285.length : Int) then ((laws_tSame.f k3 t300 (rd_L2 t285 (wrap64 (x89_3 + 1)))).bind fun t305 => (if t305 = true then ((laws_tLess.f k3 (rd_L2 t285 x89_3) t300).bind fun t306 => (if t306 = true then (laws_FnLyndonLists.l2 k3 t283 t284 t285 x11_2 t285 (t285.length : Int) (wrap64 (x89_3 + 1))) else (some false))) else (some false))) else (none)) else (none)) else (laws_FnLyndonLists.l2 k3 t283 t284 t285 x11_2 t285 (t285.length : Int) (wrap64 (x89_3 + 1))))) else (some false)) = some r := by rw [if_pos rfl] at H; exact H
                              clear H
                              have H := H1
                              clear H1
                              by_cases c34 : t298 = true
                              · subst c34
                                have H1 : (if (t301 != (decide ((wrap64 (x89_3 + 1)) < (t285.length : Int)))) = true then (some false) else (if t301 = true then (if 0 ≤ (wrap64 (x89_3 + 1)) then (if (wrap64 (x89_3 + 1)) < (t285.length : Int) then ((laws_tSame.f k3 t300 (rd_L2 t285 (wrap64 (x89_3 + 1)))).bind fun t305 => (if t305 = true then ((laws_tLess.f k3 (rd_L2 t285 x89_3) t300).bind fun t306 => (if t306 = true then (laws_FnLyndonLists.l2 k3 t283 t284 t285 x11_2 t285 (t285.length : Int) (wrap64 (x89_3 + 1))) else (some false))) else (some false))) else (none)) else (none)) else (laws_FnLyndonLists.l2 k3 t283 t284 t285 x11_2 t285 (t285.length : Int) (wrap64 (x89_3 + 1))))) = some r := by rw [if_pos rfl] at H; exact H
                                clear H
                                have H := H1
                                clear H1
                                by_cases c35 : (t301 != (decide ((wrap64 (x89_3 + 1)) < (t285.length : Int)))) = true
                                · as_aux_lemma =>
                                    rw [if_pos c35] at H
                                    have c35b0 : (t301 != (decide ((wrap64 (x89_3 + 1)) < (t285.length : Int)))) = true := c35
                                    (try (have c35b1 : decide (t301 = (decide ((wrap64 (x89_3 + 1)) < (t285.length : Int)))) = false := by simpa using c35))
                                    (try (have c35b2 : (t301 == (decide ((wrap64 (x89_3 + 1)) < (t285.length : Int)))) = false := by simpa using c35))
                                    (try (have c35b3 : ¬ (t301 = (decide ((wrap64 (x89_3 + 1)) < (t285.length : Int)))) := by simpa using c35))
                                    clear c35
                                    obtain rfl := Option.some.inj H
                                    have p297 : 0 ≤ (x89_3 : Int) := of_decide_eq_true (by first | (with_reducible assumption) | assumption)
                                    have q297 : x89_3 < (t285.length : Int) := of_decide_eq_true (by first | (with_reducible assumption) | assumption)
                                    obtain ⟨ad297, A297_0, c297_0, e297, hx297_0, hl297_0, hi297_0⟩ := at_L2 (Kd.S_reads' HO_87.out).2.2 x89_3 p297 q297
                                    cases e297
                                    obtain ⟨ce297, hce297, hMe297, hcc297⟩ := Kd.S_get HO_87.out [] x89_3 p297 (by first | exact q297 | exact of_decide_eq_true (by first | (with_reducible assumption) | assumption) | (have e_ := (Kd.S_reads' HO_87.out).1; omega))
                                    obtain ⟨ve297_0, rfl, ge297_0⟩ := hMe297
                                    have hv297_0 := hcc297 0 _ rfl
                                    rw [Nat.add_zero, show ((Kd.slice 3 (Kd.int .i64))).sz = 1 from rfl, Nat.mul_one] at hv297_0
                                    replace hv297_0 := Option.some.inj (hv297_0.symm.trans hx297_0)
                                    rw [hv297_0] at ge297_0
                                    have HL297_0 := Aside0.mk (show Kd.R (Kd.int .i64) 3 _ _ _ _ (rd_L2 t285 x89_3) from ge297_0)
                                    clear hv297_0 ge297_0
                                    clear hcc297 hce297
                                    have HR297_0 := Aside0.mk hi297_0
                                    have HC297_0 := Aside0.mk hl297_0
                                    clear hi297_0 hl297_0
                                    replace p297 := eq_true p297
                                    replace q297 := eq_true q297
                                    go_wp2_with (first | ((with_reducible refine gate_callee (f := 35) rfl ?_); refine goesL_ (some 96) rfl rfl Try.func35 (by kernel_rfl) rfl #[.slice A297_0 (rd_L2 t285 x89_3).length c297_0] rfl (by (try simp only [List.map_toArray, List.map_cons, List.map_nil]); first | done | rfl | (simp only [List.length_drop, List.length_take]; rfl)) ?_; (with_reducible refine (impl_IsLyndon.calls k3 _ _ (rd_L2 t285 x89_3) true true _ ?side1 ?side2 A31.out).mono ?_); (case side1 => repeat (first | exact (by repeat (first | (with_reducible exact HR297_0.out) | (with_reducible refine Kd.C_alloc ?_ _) | (with_reducible refine Kd.C_drewN ?_ _) | (with_reducible refine Kd.C_drew ?_) | exact HR297_0.out)) | (with_reducible refine Kd.C_alloc ?_ _) | (with_reducible refine Kd.C_drewN ?_ _) | (with_reducible refine Kd.C_drew ?_))); (case side2 => exact HC297_0.out); rintro e w36 ⟨rfl, hb⟩; refine ⟨_, rfl, ?_⟩; have n0_ := Aside0.mk (Kd.S_below (by (with_reducible repeat (first | apply Kd.S_alloc | apply Kd.S_drewN | apply Kd.S_drew)); (first | exact HO_7.out | (have hz_ := HO_7.out; (try simp only [ob_] at hz_); (try simp only [ob_]); exact hz_))) hb); have n1_ := Aside0.mk (Kd.S_below (by (with_reducible repeat (first | apply Kd.S_alloc | apply Kd.S_drewN | apply Kd.S_drew)); (first | exact HO_87.out | (have hz_ := HO_87.out; (try simp only [ob_] at hz_); (try simp only [ob_]); exact hz_))) hb); have n2_ := Aside0.mk (Kd.R_below (by (with_reducible repeat (first | apply Kd.R_alloc | apply Kd.R_drewN | apply Kd.R_drew)); exact HL297_0.out) hb); have n3_ := Aside0.mk (Kd.C_below (by repeat (first | (with_reducible exact HR297_0.out) | (with_reducible refine Kd.C_alloc ?_ _) | (with_reducible refine Kd.C_drewN ?_ _) | (with_reducible refine Kd.C_drew ?_) | exact HR297_0.out)) hb); have n4_ := Aside0.mk (below_step (by repeat (first | (with_reducible first | exact HB.out | apply below_alloc | apply pw_below_drewN | apply below_drew1) | exact HB.out)) hb); clear HO_7; clear HO_87; clear HL297_0; clear HR297_0; clear HB; have HO_7 := n0_; have HO_87 := n1_; have HL297_0 := n2_; have HR297_0 := n3_; have HB := n4_; clear n0_ n1_ n2_ n3_ n4_; (try clear hb); (try clear hb2); (try clear hk); (try clear hi)) | ((with_reducible refine gate_callee (f := 36) rfl ?_); refine goesL_ (some 103) rfl rfl Try.func36 (by kernel_rfl) rfl #[.slice A297_0 (rd_L2 t285 x89_3).length c297_0, .int .i64 t283, .int .i64 t284] rfl (by (try simp only [List.map_toArray, List.map_cons, List.map_nil]); first | done | rfl | (simp only [List.length_drop, List.length_take]; rfl)) ?_; (with_reducible refine (impl_NextLyndon.calls k3 _ _ (rd_L2 t285 x89_3) t283 t284 t300 t301 _ ?side1 ?side2 A32.out).mono ?_); (case side1 => repeat (first | exact (by repeat (first | (with_reducible exact HR297_0.out) | (with_reducible refine Kd.C_alloc ?_ _) | (with_reducible refine Kd.C_drewN ?_ _) | (with_reducible refine Kd.C_drew ?_) | exact HR297_0.out)) | (with_reducible refine Kd.C_alloc ?_ _) | (with_reducible refine Kd.C_drewN ?_ _) | (with_reducible refine Kd.C_drew ?_))); (case side2 => exact HC297_0.out); rintro e w37 ⟨v302, rfl, ho0, hb⟩; refine ⟨_, rfl, ?_⟩; have n0_ := Aside0.mk (Kd.S_elder' (by (with_reducible repeat (first | apply Kd.S_alloc | apply Kd.S_drewN | apply Kd.S_drew)); (first | exact HO_7.out | (have hz_ := HO_7.out; (try simp only [ob_] at hz_); (try simp only [ob_]); exact hz_))) (Kd.R_base ho0) hb); have n1_ := Aside0.mk (Kd.S_elder' (by (with_reducible repeat (first | apply Kd.S_alloc | apply Kd.S_drewN | apply Kd.S_drew)); (first | exact HO_87.out | (have hz_ := HO_87.out; (try simp only [ob_] at hz_); (try simp only [ob_]); exact hz_))) (Kd.R_base ho0) hb); have n2_ := Aside0.mk (Kd.R_elder' (by (with_reducible repeat (first | apply Kd.R_alloc | apply Kd.R_drewN | apply Kd.R_drew)); exact HL297_0.out) (Kd.R_base ho0) hb); have n3_ := Aside0.mk (Kd.R_lower (Kd.R_new' ho0 (Kd.R_lt (by (with_reducible repeat (first | apply Kd.R_alloc | apply Kd.R_drewN | apply Kd.R_drew)); exact HL297_0.out))) (below_size (by repeat (first | (with_reducible first | exact HB.out | apply below_alloc | apply pw_below_drewN | apply below_drew1) | exact HB.out)))); have n4_ := Aside0.mk (Kd.C_below (by repeat (first | (with_reducible exact HR297_0.out) | (with_reducible refine Kd.C_alloc ?_ _) | (with_reducible refine Kd.C_drewN ?_ _) | (with_reducible refine Kd.C_drew ?_) | exact HR297_0.out)) hb); have n5_ := Aside0.mk (below_step (by repeat (first | (with_reducible first | exact HB.out | apply below_alloc | apply pw_below_drewN | apply below_drew1) | exact HB.out)) hb); clear HO_7; clear HO_87; clear HL297_0; clear HR297_0; clear HB; have HO_7 := n0_; have HO_87 := n1_; have HL297_0 := n2_; have HO303 := n3_; have HR297_0 := n4_; have HB := n5_; clear n0_ n1_ n2_ n3_ n4_ n5_; (try clear hb); (try clear hb2); (try clear hk); (try clear hi); (try clear ho0)))
                                    go_ret
                                    exact ⟨by first | rfl | (simp [errW_none, errW_some] <;> rfl) | (simp [*, errW_none, errW_some] <;> rfl), by repeat (first | (with_reducible first | exact HB.out | apply below_alloc | apply pw_below_drewN | apply below_drew1) | exact HB.out)⟩
                                · rw [if_neg c35] at H
                                  have c35b0 : (t301 != (decide ((wrap64 (x89_3 + 1)) < (t285.length : Int)))) = false := by simpa using c35
                                  (try (have c35b1 : decide (t301 = (decide ((wrap64 (x89_3 + 1)) < (t285.length : Int)))) = true := by simpa using c35))
                                  (try (have c35b2 : (t301 == (decide ((wrap64 (x89_3 + 1)) < (t285.length : Int)))) = true := by simpa using c35))
                                  clear c35
                                  by_cases c38 : t301 = true
                                  · subst c38
                                    have H1 : (if 0 ≤ (wrap64 (x89_3 + 1)) then (if (wrap64 (x89_3 + 1)) < (t285.length : Int) then ((laws_tSame.f k3 t300 (rd_L2 t285 (wrap64 (x89_3 + 1)))).bind fun t305 => (if t305 = true then ((laws_tLess.f k3 (rd_L2 t285 x89_3) t300).bind fun t306 => (if t306 = true then (laws_FnLyndonLists.l2 k3 t283 t284 t285 x11_2 t285 (t285.length : Int) (wrap64 (x89_3 + 1))) else (some false))) else (some false))) else (none)) else (none)) = some r := by rw [if_pos rfl] at H; exact H
                                    clear H
                                    have H := H1
                                    clear H1
                                    obtain ⟨ji39, hji39⟩ : ∃ j_ : Int, (wrap64 (x89_3 + 1)) = j_ := ⟨_, rfl⟩
                                    replace H : (if 0 ≤ (ji39) then (if (ji39) < (t285.length : Int) then ((laws_tSame.f k3 t300 (rd_L2 t285 (ji39))).bind fun t305 => (if t305 = true then ((laws_tLess.f k3 (rd_L2 t285 x89_3) t300).bind fun t306 => (if t306 = true then (laws_FnLyndonLists.l2 k3 t283 t284 t285 x11_2 t285 (t285.length : Int) ji39) else (some false))) else (some false))) else (none)) else (none)) = some r := by first | (rw [hji39] at H; exact H) | (simp only [hji39] at H ⊢; exact H)
                                    (try rw [hji39] at c35b0)
                                    (try rw [hji39] at c35b1)
                                    (try rw [hji39] at c35b2)
                                    (try rw [hji39] at A31)
                                    (try rw [hji39] at A32)
                                    have hji39w : (IntKind.i64.wrap (x89_3 + 1)) = ji39 := (i64_w _).trans hji39
                                    by_cases c40 : 0 ≤ (ji39)
                                    · rw [if_pos c40] at H
                                      have c40b0 : decide (0 ≤ (ji39)) = true := decide_eq_true c40
                                      clear c40
                                      by_cases c41 : (ji39) < (t285.length : Int)
                                      · rw [if_pos c41] at H
                                        have c41b0 : decide ((ji39) < (t285.length : Int)) = true := decide_eq_true c41
                                        clear c41
                                        replace H := Option.bind_eq_some_iff.mp H
                                        obtain ⟨t305, A420, H⟩ := H
                                        replace H : (if t305 = true then ((laws_tLess.f k3 (rd_L2 t285 x89_3) t300).bind fun t306 => (if t306 = true then (laws_FnLyndonLists.l2 k3 t283 t284 t285 x11_2 t285 (t285.length : Int) ji39) else (some false))) else (some false)) = some r := H
                                        have A42 := Aside0.mk A420
                                        clear A420
                                        by_cases c43 : t305 = true
                                        · subst c43
                                          have H1 : ((laws_tLess.f k3 (rd_L2 t285 x89_3) t300).bind fun t306 => (if t306 = true then (laws_FnLyndonLists.l2 k3 t283 t284 t285 x11_2 t285 (t285.length : Int) ji39) else (some false))) = some r := by rw [if_pos rfl] at H; exact H
                                          clear H
                                          have H := H1
                                          clear H1
                                          replace H := Option.bind_eq_some_iff.mp H
                                          obtain ⟨t306, A440, H⟩ := H
                                          replace H : (if t306 = true then (laws_FnLyndonLists.l2 k3 t283 t284 t285 x11_2 t285 (t285.length : Int) ji39) else (some false)) = some r := H
                                          have A44 := Aside0.mk A440
                                          clear A440
                                          by_cases c45 : t306 = true
                                          · as_aux_lemma =>
                                              subst c45
                                              have H1 : (laws_FnLyndonLists.l2 k3 t283 t284 t285 x11_2 t285 (t285.length : Int) ji39) = some r := by rw [if_pos rfl] at H; exact H
                                              clear H
                                              have H := H1
                                              clear H1
                                              have H' := Aside0.mk H
                                              clear H
                                              have p297 : 0 ≤ (x89_3 : Int) := of_decide_eq_true (by first | (with_reducible assumption) | assumption)
                                              have q297 : x89_3 < (t285.length : Int) := of_decide_eq_true (by first | (with_reducible assumption) | assumption)
                                              obtain ⟨ad297, A297_0, c297_0, e297, hx297_0, hl297_0, hi297_0⟩ := at_L2 (Kd.S_reads' HO_87.out).2.2 x89_3 p297 q297
                                              cases e297
                                              obtain ⟨ce297, hce297, hMe297, hcc297⟩ := Kd.S_get HO_87.out [] x89_3 p297 (by first | exact q297 | exact of_decide_eq_true (by first | (with_reducible assumption) | assumption) | (have e_ := (Kd.S_reads' HO_87.out).1; omega))
                                              obtain ⟨ve297_0, rfl, ge297_0⟩ := hMe297
                                              have hv297_0 := hcc297 0 _ rfl
                                              rw [Nat.add_zero, show ((Kd.slice 3 (Kd.int .i64))).sz = 1 from rfl, Nat.mul_one] at hv297_0
                                              replace hv297_0 := Option.some.inj (hv297_0.symm.trans hx297_0)
                                              rw [hv297_0] at ge297_0
                                              have HL297_0 := Aside0.mk (show Kd.R (Kd.int .i64) 3 _ _ _ _ (rd_L2 t285 x89_3) from ge297_0)
                                              clear hv297_0 ge297_0
                                              clear hcc297 hce297
                                              have HR297_0 := Aside0.mk hi297_0
                                              have HC297_0 := Aside0.mk hl297_0
                                              clear hi297_0 hl297_0
                                              replace p297 := eq_true p297
                                              replace q297 := eq_true q297
                                              go_wp2_with (first | ((with_reducible refine gate_callee (f := 35) rfl ?_); refine goesL_ (some 96) rfl rfl Try.func35 (by kernel_rfl) rfl #[.slice A297_0 (rd_L2 t285 x89_3).length c297_0] rfl (by (try simp only [List.map_toArray, List.map_cons, List.map_nil]); first | done | rfl | (simp only [List.length_drop, List.length_take]; rfl)) ?_; (with_reducible refine (impl_IsLyndon.calls k3 _ _ (rd_L2 t285 x89_3) true true _ ?side1 ?side2 A31.out).mono ?_); (case side1 => repeat (first | exact (by repeat (first | (with_reducible exact HR297_0.out) | (with_reducible refine Kd.C_alloc ?_ _) | (with_reducible refine Kd.C_drewN ?_ _) | (with_reducible refine Kd.C_drew ?_) | exact HR297_0.out)) | (with_reducible refine Kd.C_alloc ?_ _) | (with_reducible refine Kd.C_drewN ?_ _) | (with_reducible refine Kd.C_drew ?_))); (case side2 => exact HC297_0.out); rintro e w46 ⟨rfl, hb⟩; refine ⟨_, rfl, ?_⟩; have n0_ := Aside0.mk (Kd.S_below (by (with_reducible repeat (first | apply Kd.S_alloc | apply Kd.S_drewN | apply Kd.S_drew)); (first | exact HO_7.out | (have hz_ := HO_7.out; (try simp only [ob_] at hz_); (try simp only [ob_]); exact hz_))) hb); have n1_ := Aside0.mk (Kd.S_below (by (with_reducible repeat (first | apply Kd.S_alloc | apply Kd.S_drewN | apply Kd.S_drew)); (first | exact HO_87.out | (have hz_ := HO_87.out; (try simp only [ob_] at hz_); (try simp only [ob_]); exact hz_))) hb); have n2_ := Aside0.mk (Kd.R_below (by (with_reducible repeat (first | apply Kd.R_alloc | apply Kd.R_drewN | apply Kd.R_drew)); exact HL297_0.out) hb); have n3_ := Aside0.mk (Kd.C_below (by repeat (first | (with_reducible exact HR297_0.out) | (with_reducible refine Kd.C_alloc ?_ _) | (with_reducible refine Kd.C_drewN ?_ _) | (with_reducible refine Kd.C_drew ?_) | exact HR297_0.out)) hb); have n4_ := Aside0.mk (below_step (by repeat (first | (with_reducible first | exact HB.out | apply below_alloc | apply pw_below_drewN | apply below_drew1) | exact HB.out)) hb); clear HO_7; clear HO_87; clear HL297_0; clear HR297_0; clear HB; have HO_7 := n0_; have HO_87 := n1_; have HL297_0 := n2_; have HR297_0 := n3_; have HB := n4_; clear n0_ n1_ n2_ n3_ n4_; (try clear hb); (try clear hb2); (try clear hk); (try clear hi)) | ((with_reducible refine gate_callee (f := 36) rfl ?_); refine goesL_ (some 103) rfl rfl Try.func36 (by kernel_rfl) rfl #[.slice A297_0 (rd_L2 t285 x89_3).length c297_0, .int .i64 t283, .int .i64 t284] rfl (by (try simp only [List.map_toArray, List.map_cons, List.map_nil]); first | done | rfl | (simp only [List.length_drop, List.length_take]; rfl)) ?_; (with_reducible refine (impl_NextLyndon.calls k3 _ _ (rd_L2 t285 x89_3) t283 t284 t300 true _ ?side1 ?side2 A32.out).mono ?_); (case side1 => repeat (first | exact (by repeat (first | (with_reducible exact HR297_0.out) | (with_reducible refine Kd.C_alloc ?_ _) | (with_reducible refine Kd.C_drewN ?_ _) | (with_reducible refine Kd.C_drew ?_) | exact HR297_0.out)) | (with_reducible refine Kd.C_alloc ?_ _) | (with_reducible refine Kd.C_drewN ?_ _) | (with_reducible refine Kd.C_drew ?_))); (case side2 => exact HC297_0.out); rintro e w47 ⟨v302, rfl, ho0, hb⟩; refine ⟨_, rfl, ?_⟩; have n0_ := Aside0.mk (Kd.S_elder' (by (with_reducible repeat (first | apply Kd.S_alloc | apply Kd.S_drewN | apply Kd.S_drew)); (first | exact HO_7.out | (have hz_ := HO_7.out; (try simp only [ob_] at hz_); (try simp only [ob_]); exact hz_))) (Kd.R_base ho0) hb); have n1_ := Aside0.mk (Kd.S_elder' (by (with_reducible repeat (first | apply Kd.S_alloc | apply Kd.S_drewN | apply Kd.S_drew)); (first | exact HO_87.out | (have hz_ := HO_87.out; (try simp only [ob_] at hz_); (try simp only [ob_]); exact hz_))) (Kd.R_base ho0) hb); have n2_ := Aside0.mk (Kd.R_elder' (by (with_reducible repeat (first | apply Kd.R_alloc | apply Kd.R_drewN | apply Kd.R_drew)); exact HL297_0.out) (Kd.R_base ho0) hb); have n3_ := Aside0.mk (Kd.R_lower (Kd.R_new' ho0 (Kd.R_lt (by (with_reducible repeat (first | apply Kd.R_alloc | apply Kd.R_drewN | apply Kd.R_drew)); exact HL297_0.out))) (below_size (by repeat (first | (with_reducible first | exact HB.out | apply below_alloc | apply pw_below_drewN | apply below_drew1) | exact HB.out)))); have n4_ := Aside0.mk (Kd.C_below (by repeat (first | (with_reducible exact HR297_0.out) | (with_reducible refine Kd.C_alloc ?_ _) | (with_reducible refine Kd.C_drewN ?_ _) | (with_reducible refine Kd.C_drew ?_) | exact HR297_0.out)) hb); have n5_ := Aside0.mk (below_step (by repeat (first | (with_reducible first | exact HB.out | apply below_alloc | apply pw_below_drewN | apply below_drew1) | exact HB.out)) hb); clear HO_7; clear HO_87; clear HL297_0; clear HR297_0; clear HB; have HO_7 := n0_; have HO_87 := n1_; have HL297_0 := n2_; have HO303 := n3_; have HR297_0 := n4_; have HB := n5_; clear n0_ n1_ n2_ n3_ n4_ n5_; (try clear hb); (try clear hb2); (try clear hk); (try clear hi); (try clear ho0); have p304 : 0 ≤ ((ji39) : Int) := of_decide_eq_true (by first | (with_reducible assumption) | assumption); have q304 : (ji39) < (t285.length : Int) := of_decide_eq_true (by first | (with_reducible assumption) | assumption); obtain ⟨ad304, A304_0, c304_0, e304, hx304_0, hl304_0, hi304_0⟩ := at_L2 (Kd.S_reads' HO_7.out).2.2 (ji39) p304 q304; obtain rfl : ad297 = ad304 := (by injection e304); obtain ⟨ce304, hce304, hMe304, hcc304⟩ := Kd.S_get HO_7.out [] (ji39) p304 (by first | exact q304 | exact of_decide_eq_true (by first | (with_reducible assumption) | assumption) | (have e_ := (Kd.S_reads' HO_7.out).1; omega)); obtain ⟨ve304_0, rfl, ge304_0⟩ := hMe304; have hv304_0 := hcc304 0 _ rfl; rw [Nat.add_zero, show ((Kd.slice 3 (Kd.int .i64))).sz = 1 from rfl, Nat.mul_one] at hv304_0; replace hv304_0 := Option.some.inj (hv304_0.symm.trans hx304_0); rw [hv304_0] at ge304_0; have HL304_0 := Aside0.mk (show Kd.R (Kd.int .i64) 3 _ _ _ _ (rd_L2 t285 (ji39)) from ge304_0); clear hv304_0 ge304_0; clear hcc304 hce304; have HR304_0 := Aside0.mk hi304_0; have HC304_0 := Aside0.mk hl304_0; clear hi304_0 hl304_0; replace p304 := eq_true p304; replace q304 := eq_true q304; obtain ⟨Ao48, co48, eo48⟩ := Kd.R_slice HO303.out; subst eo48) | (go_at_call 16; (with_reducible refine (laws_tSame.calls k3 _ _ t300 _ _ (rd_L2 t285 (ji39)) true _ ?side1 ?side2 ?side3 ?side4 A42.out).mono ?_); (case side1 => repeat (first | exact (Kd.R_reads' HO303.out).2.2 | (with_reducible refine Kd.C_alloc ?_ _) | (with_reducible refine Kd.C_drewN ?_ _) | (with_reducible refine Kd.C_drew ?_))); (case side2 => exact (Kd.R_reads' HO303.out).2.1); (case side3 => repeat (first | exact (by repeat (first | (with_reducible exact HR304_0.out) | (with_reducible refine Kd.C_alloc ?_ _) | (with_reducible refine Kd.C_drewN ?_ _) | (with_reducible refine Kd.C_drew ?_) | exact HR304_0.out)) | (with_reducible refine Kd.C_alloc ?_ _) | (with_reducible refine Kd.C_drewN ?_ _) | (with_reducible refine Kd.C_drew ?_))); (case side4 => exact HC304_0.out); rintro e w' ⟨rfl, ⟨nd, rfl⟩⟩) | (go_at_call 37; (with_reducible refine (laws_tLess.calls k3 _ _ (rd_L2 t285 x89_3) _ _ t300 true _ ?side1 ?side2 ?side3 ?side4 A44.out).mono ?_); (case side1 => repeat (first | exact (by repeat (first | (with_reducible exact HR297_0.out) | (with_reducible refine Kd.C_alloc ?_ _) | (with_reducible refine Kd.C_drewN ?_ _) | (with_reducible refine Kd.C_drew ?_) | exact HR297_0.out)) | (with_reducible refine Kd.C_alloc ?_ _) | (with_reducible refine Kd.C_drewN ?_ _) | (with_reducible refine Kd.C_drew ?_))); (case side2 => exact HC297_0.out); (case side3 => repeat (first | exact (Kd.R_reads' HO303.out).2.2 | (with_reducible refine Kd.C_alloc ?_ _) | (with_reducible refine Kd.C_drewN ?_ _) | (with_reducible refine Kd.C_drew ?_))); (case side4 => exact (Kd.R_reads' HO303.out).2.1); rintro e w' ⟨rfl, ⟨nd, rfl⟩⟩))
                                              go_roundg k3
                                              case measure => have := HJ7.out; have := HK2.out; have := HK3.out; omega
                                              case rel => exact ⟨(ji39), (by first | rfl | (simp; done) | (simp only [← hji39] <;> (first | rfl | simp)) | (simp [*]; done)), H', ⟨by have := HJ7.out; have := HK2.out; have := HK3.out; omega⟩, ⟨by (with_reducible repeat (first | apply Kd.S_alloc | apply Kd.S_drewN | apply Kd.S_drew)); exact Kd.S_mono HO_7.out (fun _ hk => trivial)⟩, ⟨by (with_reducible repeat (first | apply Kd.S_alloc | apply Kd.S_drewN | apply Kd.S_drew)); exact Kd.S_mono HO_87.out (fun _ hk => trivial)⟩, ⟨by repeat (first | (with_reducible first | exact HB.out | apply below_alloc | apply pw_below_drewN | apply below_drew1) | exact HB.out)⟩⟩
                                          · as_aux_lemma =>
                                              replace c45 := Bool.eq_false_iff.mpr c45
                                              subst c45
                                              have H1 : (some false) = some r := by rw [if_neg (show ¬ (false = true) by decide)] at H; exact H
                                              clear H
                                              have H := H1
                                              clear H1
                                              obtain rfl := Option.some.inj H
                                              have p297 : 0 ≤ (x89_3 : Int) := of_decide_eq_true (by first | (with_reducible assumption) | assumption)
                                              have q297 : x89_3 < (t285.length : Int) := of_decide_eq_true (by first | (with_reducible assumption) | assumption)
                                              obtain ⟨ad297, A297_0, c297_0, e297, hx297_0, hl297_0, hi297_0⟩ := at_L2 (Kd.S_reads' HO_87.out).2.2 x89_3 p297 q297
                                              cases e297
                                              obtain ⟨ce297, hce297, hMe297, hcc297⟩ := Kd.S_get HO_87.out [] x89_3 p297 (by first | exact q297 | exact of_decide_eq_true (by first | (with_reducible assumption) | assumption) | (have e_ := (Kd.S_reads' HO_87.out).1; omega))
                                              obtain ⟨ve297_0, rfl, ge297_0⟩ := hMe297
                                              have hv297_0 := hcc297 0 _ rfl
                                              rw [Nat.add_zero, show ((Kd.slice 3 (Kd.int .i64))).sz = 1 from rfl, Nat.mul_one] at hv297_0
                                              replace hv297_0 := Option.some.inj (hv297_0.symm.trans hx297_0)
                                              rw [hv297_0] at ge297_0
                                              have HL297_0 := Aside0.mk (show Kd.R (Kd.int .i64) 3 _ _ _ _ (rd_L2 t285 x89_3) from ge297_0)
                                              clear hv297_0 ge297_0
                                              clear hcc297 hce297
                                              have HR297_0 := Aside0.mk hi297_0
                                              have HC297_0 := Aside0.mk hl297_0
                                              clear hi297_0 hl297_0
                                              replace p297 := eq_true p297
                                              replace q297 := eq_true q297
                                              go_wp2_with (first | ((with_reducible refine gate_callee (f := 35) rfl ?_); refine goesL_ (some 96) rfl rfl Try.func35 (by kernel_rfl) rfl #[.slice A297_0 (rd_L2 t285 x89_3).length c297_0] rfl (by (try simp only [List.map_toArray, List.map_cons, List.map_nil]); first | done | rfl | (simp only [List.length_drop, List.length_take]; rfl)) ?_; (with_reducible refine (impl_IsLyndon.calls k3 _ _ (rd_L2 t285 x89_3) true true _ ?side1 ?side2 A31.out).mono ?_); (case side1 => repeat (first | exact (by repeat (first | (with_reducible exact HR297_0.out) | (with_reducible refine Kd.C_alloc ?_ _) | (with_reducible refine Kd.C_drewN ?_ _) | (with_reducible refine Kd.C_drew ?_) | exact HR297_0.out)) | (with_reducible refine Kd.C_alloc ?_ _) | (with_reducible refine Kd.C_drewN ?_ _) | (with_reducible refine Kd.C_drew ?_))); (case side2 => exact HC297_0.out); rintro e w49 ⟨rfl, hb⟩; refine ⟨_, rfl, ?_⟩; have n0_ := Aside0.mk (Kd.S_below (by (with_reducible repeat (first | apply Kd.S_alloc | apply Kd.S_drewN | apply Kd.S_drew)); (first | exact HO_7.out | (have hz_ := HO_7.out; (try simp only [ob_] at hz_); (try simp only [ob_]); exact hz_))) hb); have n1_ := Aside0.mk (Kd.S_below (by (with_reducible repeat (first | apply Kd.S_alloc | apply Kd.S_drewN | apply Kd.S_drew)); (first | exact HO_87.out | (have hz_ := HO_87.out; (try simp only [ob_] at hz_); (try simp only [ob_]); exact hz_))) hb); have n2_ := Aside0.mk (Kd.R_below (by (with_reducible repeat (first | apply Kd.R_alloc | apply Kd.R_drewN | apply Kd.R_drew)); exact HL297_0.out) hb); have n3_ := Aside0.mk (Kd.C_below (by repeat (first | (with_reducible exact HR297_0.out) | (with_reducible refine Kd.C_alloc ?_ _) | (with_reducible refine Kd.C_drewN ?_ _) | (with_reducible refine Kd.C_drew ?_) | exact HR297_0.out)) hb); have n4_ := Aside0.mk (below_step (by repeat (first | (with_reducible first | exact HB.out | apply below_alloc | apply pw_below_drewN | apply below_drew1) | exact HB.out)) hb); clear HO_7; clear HO_87; clear HL297_0; clear HR297_0; clear HB; have HO_7 := n0_; have HO_87 := n1_; have HL297_0 := n2_; have HR297_0 := n3_; have HB := n4_; clear n0_ n1_ n2_ n3_ n4_; (try clear hb); (try clear hb2); (try clear hk); (try clear hi)) | ((with_reducible refine gate_callee (f := 36) rfl ?_); refine goesL_ (some 103) rfl rfl Try.func36 (by kernel_rfl) rfl #[.slice A297_0 (rd_L2 t285 x89_3).length c297_0, .int .i64 t283, .int .i64 t284] rfl (by (try simp only [List.map_toArray, List.map_cons, List.map_nil]); first | done | rfl | (simp only [List.length_drop, List.length_take]; rfl)) ?_; (with_reducible refine (impl_NextLyndon.calls k3 _ _ (rd_L2 t285 x89_3) t283 t284 t300 true _ ?side1 ?side2 A32.out).mono ?_); (case side1 => repeat (first | exact (by repeat (first | (with_reducible exact HR297_0.out) | (with_reducible refine Kd.C_alloc ?_ _) | (with_reducible refine Kd.C_drewN ?_ _) | (with_reducible refine Kd.C_drew ?_) | exact HR297_0.out)) | (with_reducible refine Kd.C_alloc ?_ _) | (with_reducible refine Kd.C_drewN ?_ _) | (with_reducible refine Kd.C_drew ?_))); (case side2 => exact HC297_0.out); rintro e w50 ⟨v302, rfl, ho0, hb⟩; refine ⟨_, rfl, ?_⟩; have n0_ := Aside0.mk (Kd.S_elder' (by (with_reducible repeat (first | apply Kd.S_alloc | apply Kd.S_drewN | apply Kd.S_drew)); (first | exact HO_7.out | (have hz_ := HO_7.out; (try simp only [ob_] at hz_); (try simp only [ob_]); exact hz_))) (Kd.R_base ho0) hb); have n1_ := Aside0.mk (Kd.S_elder' (by (with_reducible repeat (first | apply Kd.S_alloc | apply Kd.S_drewN | apply Kd.S_drew)); (first | exact HO_87.out | (have hz_ := HO_87.out; (try simp only [ob_] at hz_); (try simp only [ob_]); exact hz_))) (Kd.R_base ho0) hb); have n2_ := Aside0.mk (Kd.R_elder' (by (with_reducible repeat (first | apply Kd.R_alloc | apply Kd.R_drewN | apply Kd.R_drew)); exact HL297_0.out) (Kd.R_base ho0) hb); have n3_ := Aside0.mk (Kd.R_lower (Kd.R_new' ho0 (Kd.R_lt (by (with_reducible repeat (first | apply Kd.R_alloc | apply Kd.R_drewN | apply Kd.R_drew)); exact HL297_0.out))) (below_size (by repeat (first | (with_reducible first | exact HB.out | apply below_alloc | apply pw_below_drewN | apply below_drew1) | exact HB.out)))); have n4_ := Aside0.mk (Kd.C_below (by repeat (first | (with_reducible exact HR297_0.out) | (with_reducible refine Kd.C_alloc ?_ _) | (with_reducible refine Kd.C_drewN ?_ _) | (with_reducible refine Kd.C_drew ?_) | exact HR297_0.out)) hb); have n5_ := Aside0.mk (below_step (by repeat (first | (with_reducible first | exact HB.out | apply below_alloc | apply pw_below_drewN | apply below_drew1) | exact HB.out)) hb); clear HO_7; clear HO_87; clear HL297_0; clear HR297_0; clear HB; have HO_7 := n0_; have HO_87 := n1_; have HL297_0 := n2_; have HO303 := n3_; have HR297_0 := n4_; have HB := n5_; clear n0_ n1_ n2_ n3_ n4_ n5_; (try clear hb); (try clear hb2); (try clear hk); (try clear hi); (try clear ho0); have p304 : 0 ≤ ((ji39) : Int) := of_decide_eq_true (by first | (with_reducible assumption) | assumption); have q304 : (ji39) < (t285.length : Int) := of_decide_eq_true (by first | (with_reducible assumption) | assumption); obtain ⟨ad304, A304_0, c304_0, e304, hx304_0, hl304_0, hi304_0⟩ := at_L2 (Kd.S_reads' HO_7.out).2.2 (ji39) p304 q304; obtain rfl : ad297 = ad304 := (by injection e304); obtain ⟨ce304, hce304, hMe304, hcc304⟩ := Kd.S_get HO_7.out [] (ji39) p304 (by first | exact q304 | exact of_decide_eq_true (by first | (with_reducible assumption) | assumption) | (have e_ := (Kd.S_reads' HO_7.out).1; omega)); obtain ⟨ve304_0, rfl, ge304_0⟩ := hMe304; have hv304_0 := hcc304 0 _ rfl; rw [Nat.add_zero, show ((Kd.slice 3 (Kd.int .i64))).sz = 1 from rfl, Nat.mul_one] at hv304_0; replace hv304_0 := Option.some.inj (hv304_0.symm.trans hx304_0); rw [hv304_0] at ge304_0; have HL304_0 := Aside0.mk (show Kd.R (Kd.int .i64) 3 _ _ _ _ (rd_L2 t285 (ji39)) from ge304_0); clear hv304_0 ge304_0; clear hcc304 hce304; have HR304_0 := Aside0.mk hi304_0; have HC304_0 := Aside0.mk hl304_0; clear hi304_0 hl304_0; replace p304 := eq_true p304; replace q304 := eq_true q304; obtain ⟨Ao51, co51, eo51⟩ := Kd.R_slice HO303.out; subst eo51) | (go_at_call 16; (with_reducible refine (laws_tSame.calls k3 _ _ t300 _ _ (rd_L2 t285 (ji39)) true _ ?side1 ?side2 ?side3 ?side4 A42.out).mono ?_); (case side1 => repeat (first | exact (Kd.R_reads' HO303.out).2.2 | (with_reducible refine Kd.C_alloc ?_ _) | (with_reducible refine Kd.C_drewN ?_ _) | (with_reducible refine Kd.C_drew ?_))); (case side2 => exact (Kd.R_reads' HO303.out).2.1); (case side3 => repeat (first | exact (by repeat (first | (with_reducible exact HR304_0.out) | (with_reducible refine Kd.C_alloc ?_ _) | (with_reducible refine Kd.C_drewN ?_ _) | (with_reducible refine Kd.C_drew ?_) | exact HR304_0.out)) | (with_reducible refine Kd.C_alloc ?_ _) | (with_reducible refine Kd.C_drewN ?_ _) | (with_reducible refine Kd.C_drew ?_))); (case side4 => exact HC304_0.out); rintro e w' ⟨rfl, ⟨nd, rfl⟩⟩) | (go_at_call 37; (with_reducible refine (laws_tLess.calls k3 _ _ (rd_L2 t285 x89_3) _ _ t300 false _ ?side1 ?side2 ?side3 ?side4 A44.out).mono ?_); (case side1 => repeat (first | exact (by repeat (first | (with_reducible exact HR297_0.out) | (with_reducible refine Kd.C_alloc ?_ _) | (with_reducible refine Kd.C_drewN ?_ _) | (with_reducible refine Kd.C_drew ?_) | exact HR297_0.out)) | (with_reducible refine Kd.C_alloc ?_ _) | (with_reducible refine Kd.C_drewN ?_ _) | (with_reducible refine Kd.C_drew ?_))); (case side2 => exact HC297_0.out); (case side3 => repeat (first | exact (Kd.R_reads' HO303.out).2.2 | (with_reducible refine Kd.C_alloc ?_ _) | (with_reducible refine Kd.C_drewN ?_ _) | (with_reducible refine Kd.C_drew ?_))); (case side4 => exact (Kd.R_reads' HO303.out).2.1); rintro e w' ⟨rfl, ⟨nd, rfl⟩⟩))
                                              go_ret
                                              exact ⟨by first | rfl | (simp [errW_none, errW_some] <;> rfl) | (simp only [← hji39]; first | rfl | (simp [errW_none, errW_some] <;> rfl)) | (simp [*, errW_none, errW_some] <;> rfl), by repeat (first | (with_reducible first | exact HB.out | apply below_alloc | apply pw_below_drewN | apply below_drew1) | exact HB.out)⟩
                                        · as_aux_lemma =>
                                            replace c43 := Bool.eq_false_iff.mpr c43
                                            subst c43
                                            have H1 : (some false) = some r := by rw [if_neg (show ¬ (false = true) by decide)] at H; exact H
                                            clear H
                                            have H := H1
                                            clear H1
                                            obtain rfl := Option.some.inj H
                                            have p297 : 0 ≤ (x89_3 : Int) := of_decide_eq_true (by first | (with_reducible assumption) | assumption)
                                            have q297 : x89_3 < (t285.length : Int) := of_decide_eq_true (by first | (with_reducible assumption) | assumption)
                                            obtain ⟨ad297, A297_0, c297_0, e297, hx297_0, hl297_0, hi297_0⟩ := at_L2 (Kd.S_reads' HO_87.out).2.2 x89_3 p297 q297
                                            cases e297
                                            obtain ⟨ce297, hce297, hMe297, hcc297⟩ := Kd.S_get HO_87.out [] x89_3 p297 (by first | exact q297 | exact of_decide_eq_true (by first | (with_reducible assumption) | assumption) | (have e_ := (Kd.S_reads' HO_87.out).1; omega))
                                            obtain ⟨ve297_0, rfl, ge297_0⟩ := hMe297
                                            have hv297_0 := hcc297 0 _ rfl
                                            rw [Nat.add_zero, show ((Kd.slice 3 (Kd.int .i64))).sz = 1 from rfl, Nat.mul_one] at hv297_0
                                            replace hv297_0 := Option.some.inj (hv297_0.symm.trans hx297_0)
                                            rw [hv297_0] at ge297_0
                                            have HL297_0 := Aside0.mk (show Kd.R (Kd.int .i64) 3 _ _ _ _ (rd_L2 t285 x89_3) from ge297_0)
                                            clear hv297_0 ge297_0
                                            clear hcc297 hce297
                                            have HR297_0 := Aside0.mk hi297_0
                                            have HC297_0 := Aside0.mk hl297_0
                                            clear hi297_0 hl297_0
                                            replace p297 := eq_true p297
                                            replace q297 := eq_true q297
                                            go_wp2_with (first | ((with_reducible refine gate_callee (f := 35) rfl ?_); refine goesL_ (some 96) rfl rfl Try.func35 (by kernel_rfl) rfl #[.slice A297_0 (rd_L2 t285 x89_3).length c297_0] rfl (by (try simp only [List.map_toArray, List.map_cons, List.map_nil]); first | done | rfl | (simp only [List.length_drop, List.length_take]; rfl)) ?_; (with_reducible refine (impl_IsLyndon.calls k3 _ _ (rd_L2 t285 x89_3) true true _ ?side1 ?side2 A31.out).mono ?_); (case side1 => repeat (first | exact (by repeat (first | (with_reducible exact HR297_0.out) | (with_reducible refine Kd.C_alloc ?_ _) | (with_reducible refine Kd.C_drewN ?_ _) | (with_reducible refine Kd.C_drew ?_) | exact HR297_0.out)) | (with_reducible refine Kd.C_alloc ?_ _) | (with_reducible refine Kd.C_drewN ?_ _) | (with_reducible refine Kd.C_drew ?_))); (case side2 => exact HC297_0.out); rintro e w52 ⟨rfl, hb⟩; refine ⟨_, rfl, ?_⟩; have n0_ := Aside0.mk (Kd.S_below (by (with_reducible repeat (first | apply Kd.S_alloc | apply Kd.S_drewN | apply Kd.S_drew)); (first | exact HO_7.out | (have hz_ := HO_7.out; (try simp only [ob_] at hz_); (try simp only [ob_]); exact hz_))) hb); have n1_ := Aside0.mk (Kd.S_below (by (with_reducible repeat (first | apply Kd.S_alloc | apply Kd.S_drewN | apply Kd.S_drew)); (first | exact HO_87.out | (have hz_ := HO_87.out; (try simp only [ob_] at hz_); (try simp only [ob_]); exact hz_))) hb); have n2_ := Aside0.mk (Kd.R_below (by (with_reducible repeat (first | apply Kd.R_alloc | apply Kd.R_drewN | apply Kd.R_drew)); exact HL297_0.out) hb); have n3_ := Aside0.mk (Kd.C_below (by repeat (first | (with_reducible exact HR297_0.out) | (with_reducible refine Kd.C_alloc ?_ _) | (with_reducible refine Kd.C_drewN ?_ _) | (with_reducible refine Kd.C_drew ?_) | exact HR297_0.out)) hb); have n4_ := Aside0.mk (below_step (by repeat (first | (with_reducible first | exact HB.out | apply below_alloc | apply pw_below_drewN | apply below_drew1) | exact HB.out)) hb); clear HO_7; clear HO_87; clear HL297_0; clear HR297_0; clear HB; have HO_7 := n0_; have HO_87 := n1_; have HL297_0 := n2_; have HR297_0 := n3_; have HB := n4_; clear n0_ n1_ n2_ n3_ n4_; (try clear hb); (try clear hb2); (try clear hk); (try clear hi)) | ((with_reducible refine gate_callee (f := 36) rfl ?_); refine goesL_ (some 103) rfl rfl Try.func36 (by kernel_rfl) rfl #[.slice A297_0 (rd_L2 t285 x89_3).length c297_0, .int .i64 t283, .int .i64 t284] rfl (by (try simp only [List.map_toArray, List.map_cons, List.map_nil]); first | done | rfl | (simp only [List.length_drop, List.length_take]; rfl)) ?_; (with_reducible refine (impl_NextLyndon.calls k3 _ _ (rd_L2 t285 x89_3) t283 t284 t300 true _ ?side1 ?side2 A32.out).mono ?_); (case side1 => repeat (first | exact (by repeat (first | (with_reducible exact HR297_0.out) | (with_reducible refine Kd.C_alloc ?_ _) | (with_reducible refine Kd.C_drewN ?_ _) | (with_reducible refine Kd.C_drew ?_) | exact HR297_0.out)) | (with_reducible refine Kd.C_alloc ?_ _) | (with_reducible refine Kd.C_drewN ?_ _) | (with_reducible refine Kd.C_drew ?_))); (case side2 => exact HC297_0.out); rintro e w53 ⟨v302, rfl, ho0, hb⟩; refine ⟨_, rfl, ?_⟩; have n0_ := Aside0.mk (Kd.S_elder' (by (with_reducible repeat (first | apply Kd.S_alloc | apply Kd.S_drewN | apply Kd.S_drew)); (first | exact HO_7.out | (have hz_ := HO_7.out; (try simp only [ob_] at hz_); (try simp only [ob_]); exact hz_))) (Kd.R_base ho0) hb); have n1_ := Aside0.mk (Kd.S_elder' (by (with_reducible repeat (first | apply Kd.S_alloc | apply Kd.S_drewN | apply Kd.S_drew)); (first | exact HO_87.out | (have hz_ := HO_87.out; (try simp only [ob_] at hz_); (try simp only [ob_]); exact hz_))) (Kd.R_base ho0) hb); have n2_ := Aside0.mk (Kd.R_elder' (by (with_reducible repeat (first | apply Kd.R_alloc | apply Kd.R_drewN | apply Kd.R_drew)); exact HL297_0.out) (Kd.R_base ho0) hb); have n3_ := Aside0.mk (Kd.R_lower (Kd.R_new' ho0 (Kd.R_lt (by (with_reducible repeat (first | apply Kd.R_alloc | apply Kd.R_drewN | apply Kd.R_drew)); exact HL297_0.out))) (below_size (by repeat (first | (with_reducible first | exact HB.out | apply below_alloc | apply pw_below_drewN | apply below_drew1) | exact HB.out)))); have n4_ := Aside0.mk (Kd.C_below (by repeat (first | (with_reducible exact HR297_0.out) | (with_reducible refine Kd.C_alloc ?_ _) | (with_reducible refine Kd.C_drewN ?_ _) | (with_reducible refine Kd.C_drew ?_) | exact HR297_0.out)) hb); have n5_ := Aside0.mk (below_step (by repeat (first | (with_reducible first | exact HB.out | apply below_alloc | apply pw_below_drewN | apply below_drew1) | exact HB.out)) hb); clear HO_7; clear HO_87; clear HL297_0; clear HR297_0; clear HB; have HO_7 := n0_; have HO_87 := n1_; have HL297_0 := n2_; have HO303 := n3_; have HR297_0 := n4_; have HB := n5_; clear n0_ n1_ n2_ n3_ n4_ n5_; (try clear hb); (try clear hb2); (try clear hk); (try clear hi); (try clear ho0); have p304 : 0 ≤ ((ji39) : Int) := of_decide_eq_true (by first | (with_reducible assumption) | assumption); have q304 : (ji39) < (t285.length : Int) := of_decide_eq_true (by first | (with_reducible assumption) | assumption); obtain ⟨ad304, A304_0, c304_0, e304, hx304_0, hl304_0, hi304_0⟩ := at_L2 (Kd.S_reads' HO_7.out).2.2 (ji39) p304 q304; obtain rfl : ad297 = ad304 := (by injection e304); obtain ⟨ce304, hce304, hMe304, hcc304⟩ := Kd.S_get HO_7.out [] (ji39) p304 (by first | exact q304 | exact of_decide_eq_true (by first | (with_reducible assumption) | assumption) | (have e_ := (Kd.S_reads' HO_7.out).1; omega)); obtain ⟨ve304_0, rfl, ge304_0⟩ := hMe304; have hv304_0 := hcc304 0 _ rfl; rw [Nat.add_zero, show ((Kd.slice 3 (Kd.int .i64))).sz = 1 from rfl, Nat.mul_one] at hv304_0; replace hv304_0 := Option.some.inj (hv304_0.symm.trans hx304_0); rw [hv304_0] at ge304_0; have HL304_0 := Aside0.mk (show Kd.R (Kd.int .i64) 3 _ _ _ _ (rd_L2 t285 (ji39)) from ge304_0); clear hv304_0 ge304_0; clear hcc304 hce304; have HR304_0 := Aside0.mk hi304_0; have HC304_0 := Aside0.mk hl304_0; clear hi304_0 hl304_0; replace p304 := eq_true p304; replace q304 := eq_true q304; obtain ⟨Ao54, co54, eo54⟩ := Kd.R_slice HO303.out; subst eo54) | (go_at_call 16; (with_reducible refine (laws_tSame.calls k3 _ _ t300 _ _ (rd_L2 t285 (ji39)) false _ ?side1 ?side2 ?side3 ?side4 A42.out).mono ?_); (case side1 => repeat (first | exact (Kd.R_reads' HO303.out).2.2 | (with_reducible refine Kd.C_alloc ?_ _) | (with_reducible refine Kd.C_drewN ?_ _) | (with_reducible refine Kd.C_drew ?_))); (case side2 => exact (Kd.R_reads' HO303.out).2.1); (case side3 => repeat (first | exact (by repeat (first | (with_reducible exact HR304_0.out) | (with_reducible refine Kd.C_alloc ?_ _) | (with_reducible refine Kd.C_drewN ?_ _) | (with_reducible refine Kd.C_drew ?_) | exact HR304_0.out)) | (with_reducible refine Kd.C_alloc ?_ _) | (with_reducible refine Kd.C_drewN ?_ _) | (with_reducible refine Kd.C_drew ?_))); (case side4 => exact HC304_0.out); rintro e w' ⟨rfl, ⟨nd, rfl⟩⟩))
                                            go_ret
                                            exact ⟨by first | rfl | (simp [errW_none, errW_some] <;> rfl) | (simp only [← hji39]; first | rfl | (simp [errW_none, errW_some] <;> rfl)) | (simp [*, errW_none, errW_some] <;> rfl), by repeat (first | (with_reducible first | exact HB.out | apply below_alloc | apply pw_below_drewN | apply below_drew1) | exact HB.out)⟩
                                      · rw [if_neg c41] at H
                                        exact absurd H (by simp)
                                    · rw [if_neg c40] at H
                                      exact absurd H (by simp)
                                  · as_aux_lemma =>
                                      replace c38 := Bool.eq_false_iff.mpr c38
                                      subst c38
                                      have H1 : (laws_FnLyndonLists.l2 k3 t283 t284 t285 x11_2 t285 (t285.length : Int) (wrap64 (x89_3 + 1))) = some r := by rw [if_neg (show ¬ (false = true) by decide)] at H; exact H
                                      clear H
                                      have H := H1
                                      clear H1
                                      have H' := Aside0.mk H
                                      clear H
                                      have p297 : 0 ≤ (x89_3 : Int) := of_decide_eq_true (by first | (with_reducible assumption) | assumption)
                                      have q297 : x89_3 < (t285.length : Int) := of_decide_eq_true (by first | (with_reducible assumption) | assumption)
                                      obtain ⟨ad297, A297_0, c297_0, e297, hx297_0, hl297_0, hi297_0⟩ := at_L2 (Kd.S_reads' HO_87.out).2.2 x89_3 p297 q297
                                      cases e297
                                      obtain ⟨ce297, hce297, hMe297, hcc297⟩ := Kd.S_get HO_87.out [] x89_3 p297 (by first | exact q297 | exact of_decide_eq_true (by first | (with_reducible assumption) | assumption) | (have e_ := (Kd.S_reads' HO_87.out).1; omega))
                                      obtain ⟨ve297_0, rfl, ge297_0⟩ := hMe297
                                      have hv297_0 := hcc297 0 _ rfl
                                      rw [Nat.add_zero, show ((Kd.slice 3 (Kd.int .i64))).sz = 1 from rfl, Nat.mul_one] at hv297_0
                                      replace hv297_0 := Option.some.inj (hv297_0.symm.trans hx297_0)
                                      rw [hv297_0] at ge297_0
                                      have HL297_0 := Aside0.mk (show Kd.R (Kd.int .i64) 3 _ _ _ _ (rd_L2 t285 x89_3) from ge297_0)
                                      clear hv297_0 ge297_0
                                      clear hcc297 hce297
                                      have HR297_0 := Aside0.mk hi297_0
                                      have HC297_0 := Aside0.mk hl297_0
                                      clear hi297_0 hl297_0
                                      replace p297 := eq_true p297
                                      replace q297 := eq_true q297
                                      go_wp2_with (first | ((with_reducible refine gate_callee (f := 35) rfl ?_); refine goesL_ (some 96) rfl rfl Try.func35 (by kernel_rfl) rfl #[.slice A297_0 (rd_L2 t285 x89_3).length c297_0] rfl (by (try simp only [List.map_toArray, List.map_cons, List.map_nil]); first | done | rfl | (simp only [List.length_drop, List.length_take]; rfl)) ?_; (with_reducible refine (impl_IsLyndon.calls k3 _ _ (rd_L2 t285 x89_3) true true _ ?side1 ?side2 A31.out).mono ?_); (case side1 => repeat (first | exact (by repeat (first | (with_reducible exact HR297_0.out) | (with_reducible refine Kd.C_alloc ?_ _) | (with_reducible refine Kd.C_drewN ?_ _) | (with_reducible refine Kd.C_drew ?_) | exact HR297_0.out)) | (with_reducible refine Kd.C_alloc ?_ _) | (with_reducible refine Kd.C_drewN ?_ _) | (with_reducible refine Kd.C_drew ?_))); (case side2 => exact HC297_0.out); rintro e w55 ⟨rfl, hb⟩; refine ⟨_, rfl, ?_⟩; have n0_ := Aside0.mk (Kd.S_below (by (with_reducible repeat (first | apply Kd.S_alloc | apply Kd.S_drewN | apply Kd.S_drew)); (first | exact HO_7.out | (have hz_ := HO_7.out; (try simp only [ob_] at hz_); (try simp only [ob_]); exact hz_))) hb); have n1_ := Aside0.mk (Kd.S_below (by (with_reducible repeat (first | apply Kd.S_alloc | apply Kd.S_drewN | apply Kd.S_drew)); (first | exact HO_87.out | (have hz_ := HO_87.out; (try simp only [ob_] at hz_); (try simp only [ob_]); exact hz_))) hb); have n2_ := Aside0.mk (Kd.R_below (by (with_reducible repeat (first | apply Kd.R_alloc | apply Kd.R_drewN | apply Kd.R_drew)); exact HL297_0.out) hb); have n3_ := Aside0.mk (Kd.C_below (by repeat (first | (with_reducible exact HR297_0.out) | (with_reducible refine Kd.C_alloc ?_ _) | (with_reducible refine Kd.C_drewN ?_ _) | (with_reducible refine Kd.C_drew ?_) | exact HR297_0.out)) hb); have n4_ := Aside0.mk (below_step (by repeat (first | (with_reducible first | exact HB.out | apply below_alloc | apply pw_below_drewN | apply below_drew1) | exact HB.out)) hb); clear HO_7; clear HO_87; clear HL297_0; clear HR297_0; clear HB; have HO_7 := n0_; have HO_87 := n1_; have HL297_0 := n2_; have HR297_0 := n3_; have HB := n4_; clear n0_ n1_ n2_ n3_ n4_; (try clear hb); (try clear hb2); (try clear hk); (try clear hi)) | ((with_reducible refine gate_callee (f := 36) rfl ?_); refine goesL_ (some 103) rfl rfl Try.func36 (by kernel_rfl) rfl #[.slice A297_0 (rd_L2 t285 x89_3).length c297_0, .int .i64 t283, .int .i64 t284] rfl (by (try simp only [List.map_toArray, List.map_cons, List.map_nil]); first | done | rfl | (simp only [List.length_drop, List.length_take]; rfl)) ?_; (with_reducible refine (impl_NextLyndon.calls k3 _ _ (rd_L2 t285 x89_3) t283 t284 t300 false _ ?side1 ?side2 A32.out).mono ?_); (case side1 => repeat (first | exact (by repeat (first | (with_reducible exact HR297_0.out) | (with_reducible refine Kd.C_alloc ?_ _) | (with_reducible refine Kd.C_drewN ?_ _) | (with_reducible refine Kd.C_drew ?_) | exact HR297_0.out)) | (with_reducible refine Kd.C_alloc ?_ _) | (with_reducible refine Kd.C_drewN ?_ _) | (with_reducible refine Kd.C_drew ?_))); (case side2 => exact HC297_0.out); rintro e w56 ⟨v302, rfl, ho0, hb⟩; refine ⟨_, rfl, ?_⟩; have n0_ := Aside0.mk (Kd.S_elder' (by (with_reducible repeat (first | apply Kd.S_alloc | apply Kd.S_drewN | apply Kd.S_drew)); (first | exact HO_7.out | (have hz_ := HO_7.out; (try simp only [ob_] at hz_); (try simp only [ob_]); exact hz_))) (Kd.R_base ho0) hb); have n1_ := Aside0.mk (Kd.S_elder' (by (with_reducible repeat (first | apply Kd.S_alloc | apply Kd.S_drewN | apply Kd.S_drew)); (first | exact HO_87.out | (have hz_ := HO_87.out; (try simp only [ob_] at hz_); (try simp only [ob_]); exact hz_))) (Kd.R_base ho0) hb); have n2_ := Aside0.mk (Kd.R_elder' (by (with_reducible repeat (first | apply Kd.R_alloc | apply Kd.R_drewN | apply Kd.R_drew)); exact HL297_0.out) (Kd.R_base ho0) hb); have n3_ := Aside0.mk (Kd.R_lower (Kd.R_new' ho0 (Kd.R_lt (by (with_reducible repeat (first | apply Kd.R_alloc | apply Kd.R_drewN | apply Kd.R_drew)); exact HL297_0.out))) (below_size (by repeat (first | (with_reducible first | exact HB.out | apply below_alloc | apply pw_below_drewN | apply below_drew1) | exact HB.out)))); have n4_ := Aside0.mk (Kd.C_below (by repeat (first | (with_reducible exact HR297_0.out) | (with_reducible refine Kd.C_alloc ?_ _) | (with_reducible refine Kd.C_drewN ?_ _) | (with_reducible refine Kd.C_drew ?_) | exact HR297_0.out)) hb); have n5_ := Aside0.mk (below_step (by repeat (first | (with_reducible first | exact HB.out | apply below_alloc | apply pw_below_drewN | apply below_drew1) | exact HB.out)) hb); clear HO_7; clear HO_87; clear HL297_0; clear HR297_0; clear HB; have HO_7 := n0_; have HO_87 := n1_; have HL297_0 := n2_; have HO303 := n3_; have HR297_0 := n4_; have HB := n5_; clear n0_ n1_ n2_ n3_ n4_ n5_; (try clear hb); (try clear hb2); (try clear hk); (try clear hi); (try clear ho0)))
                                      go_roundg k3
                                      case measure => have := HJ7.out; have := HK2.out; have := HK3.out; omega
                                      case rel => exact ⟨(wrap64 (x89_3 + 1)), (by first | rfl | (simp; done) | (simp [*]; done)), H', ⟨by have := HJ7.out; have := HK2.out; have := HK3.out; omega⟩, ⟨by (with_reducible repeat (first | apply Kd.S_alloc | apply Kd.S_drewN | apply Kd.S_drew)); exact Kd.S_mono HO_7.out (fun _ hk => trivial)⟩, ⟨by (with_reducible repeat (first | apply Kd.S_alloc | apply Kd.S_drewN | apply Kd.S_drew)); exact Kd.S_mono HO_87.out (fun _ hk => trivial)⟩, ⟨by repeat (first | (with_reducible first | exact HB.out | apply below_alloc | apply pw_below_drewN | apply below_drew1) | exact HB.out)⟩⟩
                              · as_aux_lemma =>
                                  replace c34 := Bool.eq_false_iff.mpr c34
                                  subst c34
                                  have H1 : (some false) = some r := by rw [if_neg (show ¬ (false = true) by decide)] at H; exact H
                                  clear H
                                  have H := H1
                                  clear H1
                                  obtain rfl := Option.some.inj H
                                  have p297 : 0 ≤ (x89_3 : Int) := of_decide_eq_true (by first | (with_reducible assumption) | assumption)
                                  have q297 : x89_3 < (t285.length : Int) := of_decide_eq_true (by first | (with_reducible assumption) | assumption)
                                  obtain ⟨ad297, A297_0, c297_0, e297, hx297_0, hl297_0, hi297_0⟩ := at_L2 (Kd.S_reads' HO_87.out).2.2 x89_3 p297 q297
                                  cases e297
                                  obtain ⟨ce297, hce297, hMe297, hcc297⟩ := Kd.S_get HO_87.out [] x89_3 p297 (by first | exact q297 | exact of_decide_eq_true (by first | (with_reducible assumption) | assumption) | (have e_ := (Kd.S_reads' HO_87.out).1; omega))
                                  obtain ⟨ve297_0, rfl, ge297_0⟩ := hMe297
                                  have hv297_0 := hcc297 0 _ rfl
                                  rw [Nat.add_zero, show ((Kd.slice 3 (Kd.int .i64))).sz = 1 from rfl, Nat.mul_one] at hv297_0
                                  replace hv297_0 := Option.some.inj (hv297_0.symm.trans hx297_0)
                                  rw [hv297_0] at ge297_0
                                  have HL297_0 := Aside0.mk (show Kd.R (Kd.int .i64) 3 _ _ _ _ (rd_L2 t285 x89_3) from ge297_0)
                                  clear hv297_0 ge297_0
                                  clear hcc297 hce297
                                  have HR297_0 := Aside0.mk hi297_0
                                  have HC297_0 := Aside0.mk hl297_0
                                  clear hi297_0 hl297_0
                                  replace p297 := eq_true p297
                                  replace q297 := eq_true q297
                                  go_wp2_with (first | ((with_reducible refine gate_callee (f := 35) rfl ?_); refine goesL_ (some 96) rfl rfl Try.func35 (by kernel_rfl) rfl #[.slice A297_0 (rd_L2 t285 x89_3).length c297_0] rfl (by (try simp only [List.map_toArray, List.map_cons, List.map_nil]); first | done | rfl | (simp only [List.length_drop, List.length_take]; rfl)) ?_; (with_reducible refine (impl_IsLyndon.calls k3 _ _ (rd_L2 t285 x89_3) false true _ ?side1 ?side2 A31.out).mono ?_); (case side1 => repeat (first | exact (by repeat (first | (with_reducible exact HR297_0.out) | (with_reducible refine Kd.C_alloc ?_ _) | (with_reducible refine Kd.C_drewN ?_ _) | (with_reducible refine Kd.C_drew ?_) | exact HR297_0.out)) | (with_reducible refine Kd.C_alloc ?_ _) | (with_reducible refine Kd.C_drewN ?_ _) | (with_reducible refine Kd.C_drew ?_))); (case side2 => exact HC297_0.out); rintro e w57 ⟨rfl, hb⟩; refine ⟨_, rfl, ?_⟩; have n0_ := Aside0.mk (Kd.S_below (by (with_reducible repeat (first | apply Kd.S_alloc | apply Kd.S_drewN | apply Kd.S_drew)); (first | exact HO_7.out | (have hz_ := HO_7.out; (try simp only [ob_] at hz_); (try simp only [ob_]); exact hz_))) hb); have n1_ := Aside0.mk (Kd.S_below (by (with_reducible repeat (first | apply Kd.S_alloc | apply Kd.S_drewN | apply Kd.S_drew)); (first | exact HO_87.out | (have hz_ := HO_87.out; (try simp only [ob_] at hz_); (try simp only [ob_]); exact hz_))) hb); have n2_ := Aside0.mk (Kd.R_below (by (with_reducible repeat (first | apply Kd.R_alloc | apply Kd.R_drewN | apply Kd.R_drew)); exact HL297_0.out) hb); have n3_ := Aside0.mk (Kd.C_below (by repeat (first | (with_reducible exact HR297_0.out) | (with_reducible refine Kd.C_alloc ?_ _) | (with_reducible refine Kd.C_drewN ?_ _) | (with_reducible refine Kd.C_drew ?_) | exact HR297_0.out)) hb); have n4_ := Aside0.mk (below_step (by repeat (first | (with_reducible first | exact HB.out | apply below_alloc | apply pw_below_drewN | apply below_drew1) | exact HB.out)) hb); clear HO_7; clear HO_87; clear HL297_0; clear HR297_0; clear HB; have HO_7 := n0_; have HO_87 := n1_; have HL297_0 := n2_; have HR297_0 := n3_; have HB := n4_; clear n0_ n1_ n2_ n3_ n4_; (try clear hb); (try clear hb2); (try clear hk); (try clear hi)) | ((with_reducible refine gate_callee (f := 36) rfl ?_); refine goesL_ (some 103) rfl rfl Try.func36 (by kernel_rfl) rfl #[.slice A297_0 (rd_L2 t285 x89_3).length c297_0, .int .i64 t283, .int .i64 t284] rfl (by (try simp only [List.map_toArray, List.map_cons, List.map_nil]); first | done | rfl | (simp only [List.length_drop, List.length_take]; rfl)) ?_; (with_reducible refine (impl_NextLyndon.calls k3 _ _ (rd_L2 t285 x89_3) t283 t284 t300 t301 _ ?side1 ?side2 A32.out).mono ?_); (case side1 => repeat (first | exact (by repeat (first | (with_reducible exact HR297_0.out) | (with_reducible refine Kd.C_alloc ?_ _) | (with_reducible refine Kd.C_drewN ?_ _) | (with_reducible refine Kd.C_drew ?_) | exact HR297_0.out)) | (with_reducible refine Kd.C_alloc ?_ _) | (with_reducible refine Kd.C_drewN ?_ _) | (with_reducible refine Kd.C_drew ?_))); (case side2 => exact HC297_0.out); rintro e w58 ⟨v302, rfl, ho0, hb⟩; refine ⟨_, rfl, ?_⟩; have n0_ := Aside0.mk (Kd.S_elder' (by (with_reducible repeat (first | apply Kd.S_alloc | apply Kd.S_drewN | apply Kd.S_drew)); (first | exact HO_7.out | (have hz_ := HO_7.out; (try simp only [ob_] at hz_); (try simp only [ob_]); exact hz_))) (Kd.R_base ho0) hb); have n1_ := Aside0.mk (Kd.S_elder' (by (with_reducible repeat (first | apply Kd.S_alloc | apply Kd.S_drewN | apply Kd.S_drew)); (first | exact HO_87.out | (have hz_ := HO_87.out; (try simp only [ob_] at hz_); (try simp only [ob_]); exact hz_))) (Kd.R_base ho0) hb); have n2_ := Aside0.mk (Kd.R_elder' (by (with_reducible repeat (first | apply Kd.R_alloc | apply Kd.R_drewN | apply Kd.R_drew)); exact HL297_0.out) (Kd.R_base ho0) hb); have n3_ := Aside0.mk (Kd.R_lower (Kd.R_new' ho0 (Kd.R_lt (by (with_reducible repeat (first | apply Kd.R_alloc | apply Kd.R_drewN | apply Kd.R_drew)); exact HL297_0.out))) (below_size (by repeat (first | (with_reducible first | exact HB.out | apply below_alloc | apply pw_below_drewN | apply below_drew1) | exact HB.out)))); have n4_ := Aside0.mk (Kd.C_below (by repeat (first | (with_reducible exact HR297_0.out) | (with_reducible refine Kd.C_alloc ?_ _) | (with_reducible refine Kd.C_drewN ?_ _) | (with_reducible refine Kd.C_drew ?_) | exact HR297_0.out)) hb); have n5_ := Aside0.mk (below_step (by repeat (first | (with_reducible first | exact HB.out | apply below_alloc | apply pw_below_drewN | apply below_drew1) | exact HB.out)) hb); clear HO_7; clear HO_87; clear HL297_0; clear HR297_0; clear HB; have HO_7 := n0_; have HO_87 := n1_; have HL297_0 := n2_; have HO303 := n3_; have HR297_0 := n4_; have HB := n5_; clear n0_ n1_ n2_ n3_ n4_ n5_; (try clear hb); (try clear hb2); (try clear hk); (try clear hi); (try clear ho0)))
                                  go_ret
                                  exact ⟨by first | rfl | (simp [errW_none, errW_some] <;> rfl) | (simp [*, errW_none, errW_some] <;> rfl), by repeat (first | (with_reducible first | exact HB.out | apply below_alloc | apply pw_below_drewN | apply below_drew1) | exact HB.out)⟩
                            · as_aux_lemma =>
                                replace c33 := Bool.eq_false_iff.mpr c33
                                subst c33
                                have H1 : (some false) = some r := by rw [if_neg (show ¬ (false = true) by decide)] at H; exact H
                                clear H
                                have H := H1
                                clear H1
                                obtain rfl := Option.some.inj H
                                have p297 : 0 ≤ (x89_3 : Int) := of_decide_eq_true (by first | (with_reducible assumption) | assumption)
                                have q297 : x89_3 < (t285.length : Int) := of_decide_eq_true (by first | (with_reducible assumption) | assumption)
                                obtain ⟨ad297, A297_0, c297_0, e297, hx297_0, hl297_0, hi297_0⟩ := at_L2 (Kd.S_reads' HO_87.out).2.2 x89_3 p297 q297
                                cases e297
                                obtain ⟨ce297, hce297, hMe297, hcc297⟩ := Kd.S_get HO_87.out [] x89_3 p297 (by first | exact q297 | exact of_decide_eq_true (by first | (with_reducible assumption) | assumption) | (have e_ := (Kd.S_reads' HO_87.out).1; omega))
                                obtain ⟨ve297_0, rfl, ge297_0⟩ := hMe297
                                have hv297_0 := hcc297 0 _ rfl
                                rw [Nat.add_zero, show ((Kd.slice 3 (Kd.int .i64))).sz = 1 from rfl, Nat.mul_one] at hv297_0
                                replace hv297_0 := Option.some.inj (hv297_0.symm.trans hx297_0)
                                rw [hv297_0] at ge297_0
                                have HL297_0 := Aside0.mk (show Kd.R (Kd.int .i64) 3 _ _ _ _ (rd_L2 t285 x89_3) from ge297_0)
                                clear hv297_0 ge297_0
                                clear hcc297 hce297
                                have HR297_0 := Aside0.mk hi297_0
                                have HC297_0 := Aside0.mk hl297_0
                                clear hi297_0 hl297_0
                                replace p297 := eq_true p297
                                replace q297 := eq_true q297
                                go_wp2_with (first | ((with_reducible refine gate_callee (f := 35) rfl ?_); refine goesL_ (some 96) rfl rfl Try.func35 (by kernel_rfl) rfl #[.slice A297_0 (rd_L2 t285 x89_3).length c297_0] rfl (by (try simp only [List.map_toArray, List.map_cons, List.map_nil]); first | done | rfl | (simp only [List.length_drop, List.length_take]; rfl)) ?_; (with_reducible refine (impl_IsLyndon.calls k3 _ _ (rd_L2 t285 x89_3) t298 false _ ?side1 ?side2 A31.out).mono ?_); (case side1 => repeat (first | exact (by repeat (first | (with_reducible exact HR297_0.out) | (with_reducible refine Kd.C_alloc ?_ _) | (with_reducible refine Kd.C_drewN ?_ _) | (with_reducible refine Kd.C_drew ?_) | exact HR297_0.out)) | (with_reducible refine Kd.C_alloc ?_ _) | (with_reducible refine Kd.C_drewN ?_ _) | (with_reducible refine Kd.C_drew ?_))); (case side2 => exact HC297_0.out); rintro e w59 ⟨rfl, hb⟩; refine ⟨_, rfl, ?_⟩; have n0_ := Aside0.mk (Kd.S_below (by (with_reducible repeat (first | apply Kd.S_alloc | apply Kd.S_drewN | apply Kd.S_drew)); (first | exact HO_7.out | (have hz_ := HO_7.out; (try simp only [ob_] at hz_); (try simp only [ob_]); exact hz_))) hb); have n1_ := Aside0.mk (Kd.S_below (by (with_reducible repeat (first | apply Kd.S_alloc | apply Kd.S_drewN | apply Kd.S_drew)); (first | exact HO_87.out | (have hz_ := HO_87.out; (try simp only [ob_] at hz_); (try simp only [ob_]); exact hz_))) hb); have n2_ := Aside0.mk (Kd.R_below (by (with_reducible repeat (first | apply Kd.R_alloc | apply Kd.R_drewN | apply Kd.R_drew)); exact HL297_0.out) hb); have n3_ := Aside0.mk (Kd.C_below (by repeat (first | (with_reducible exact HR297_0.out) | (with_reducible refine Kd.C_alloc ?_ _) | (with_reducible refine Kd.C_drewN ?_ _) | (with_reducible refine Kd.C_drew ?_) | exact HR297_0.out)) hb); have n4_ := Aside0.mk (below_step (by repeat (first | (with_reducible first | exact HB.out | apply below_alloc | apply pw_below_drewN | apply below_drew1) | exact HB.out)) hb); clear HO_7; clear HO_87; clear HL297_0; clear HR297_0; clear HB; have HO_7 := n0_; have HO_87 := n1_; have HL297_0 := n2_; have HR297_0 := n3_; have HB := n4_; clear n0_ n1_ n2_ n3_ n4_; (try clear hb); (try clear hb2); (try clear hk); (try clear hi)) | ((with_reducible refine gate_callee (f := 36) rfl ?_); refine goesL_ (some 103) rfl rfl Try.func36 (by kernel_rfl) rfl #[.slice A297_0 (rd_L2 t285 x89_3).length c297_0, .int .i64 t283, .int .i64 t284] rfl (by (try simp only [List.map_toArray, List.map_cons, List.map_nil]); first | done | rfl | (simp only [List.length_drop, List.length_take]; rfl)) ?_; (with_reducible refine (impl_NextLyndon.calls k3 _ _ (rd_L2 t285 x89_3) t283 t284 t300 t301 _ ?side1 ?side2 A32.out).mono ?_); (case side1 => repeat (first | exact (by repeat (first | (with_reducible exact HR297_0.out) | (with_reducible refine Kd.C_alloc ?_ _) | (with_reducible refine Kd.C_drewN ?_ _) | (with_reducible refine Kd.C_drew ?_) | exact HR297_0.out)) | (with_reducible refine Kd.C_alloc ?_ _) | (with_reducible refine Kd.C_drewN ?_ _) | (with_reducible refine Kd.C_drew ?_))); (case side2 => exact HC297_0.out); rintro e w60 ⟨v302, rfl, ho0, hb⟩; refine ⟨_, rfl, ?_⟩; have n0_ := Aside0.mk (Kd.S_elder' (by (with_reducible repeat (first | apply Kd.S_alloc | apply Kd.S_drewN | apply Kd.S_drew)); (first | exact HO_7.out | (have hz_ := HO_7.out; (try simp only [ob_] at hz_); (try simp only [ob_]); exact hz_))) (Kd.R_base ho0) hb); have n1_ := Aside0.mk (Kd.S_elder' (by (with_reducible repeat (first | apply Kd.S_alloc | apply Kd.S_drewN | apply Kd.S_drew)); (first | exact HO_87.out | (have hz_ := HO_87.out; (try simp only [ob_] at hz_); (try simp only [ob_]); exact hz_))) (Kd.R_base ho0) hb); have n2_ := Aside0.mk (Kd.R_elder' (by (with_reducible repeat (first | apply Kd.R_alloc | apply Kd.R_drewN | apply Kd.R_drew)); exact HL297_0.out) (Kd.R_base ho0) hb); have n3_ := Aside0.mk (Kd.R_lower (Kd.R_new' ho0 (Kd.R_lt (by (with_reducible repeat (first | apply Kd.R_alloc | apply Kd.R_drewN | apply Kd.R_drew)); exact HL297_0.out))) (below_size (by repeat (first | (with_reducible first | exact HB.out | apply below_alloc | apply pw_below_drewN | apply below_drew1) | exact HB.out)))); have n4_ := Aside0.mk (Kd.C_below (by repeat (first | (with_reducible exact HR297_0.out) | (with_reducible refine Kd.C_alloc ?_ _) | (with_reducible refine Kd.C_drewN ?_ _) | (with_reducible refine Kd.C_drew ?_) | exact HR297_0.out)) hb); have n5_ := Aside0.mk (below_step (by repeat (first | (with_reducible first | exact HB.out | apply below_alloc | apply pw_below_drewN | apply below_drew1) | exact HB.out)) hb); clear HO_7; clear HO_87; clear HL297_0; clear HR297_0; clear HB; have HO_7 := n0_; have HO_87 := n1_; have HL297_0 := n2_; have HO303 := n3_; have HR297_0 := n4_; have HB := n5_; clear n0_ n1_ n2_ n3_ n4_ n5_; (try clear hb); (try clear hb2); (try clear hk); (try clear hi); (try clear ho0)))
                                go_ret
                                exact ⟨by first | rfl | (simp [errW_none, errW_some] <;> rfl) | (simp [*, errW_none, errW_some] <;> rfl), by repeat (first | (with_reducible first | exact HB.out | apply below_alloc | apply pw_below_drewN | apply below_drew1) | exact HB.out)⟩
                          · rw [if_neg c30] at H
                            exact absurd H (by simp)
                        · rw [if_neg c29] at H
                          exact absurd H (by simp)
                      · as_aux_lemma =>
                          rw [if_neg c28] at H
                          have c28b0 : decide (x89_3 < (t285.length : Int)) = false := decide_eq_false c28
                          clear c28
                          obtain rfl := Option.some.inj H
                          go_wp2
                          go_ret
                          exact ⟨by first | rfl | (simp [errW_none, errW_some] <;> rfl) | (simp [*, errW_none, errW_some] <;> rfl), by repeat (first | (with_reducible first | exact HB.out | apply below_alloc | apply pw_below_drewN | apply below_drew1) | exact HB.out)⟩
          · as_aux_lemma =>
              replace c17 := Bool.eq_false_iff.mpr c17
              subst c17
              have H1 : (some true) = some r := by rw [if_neg (show ¬ (false = true) by decide)] at H; exact H
              clear H
              have H := H1
              clear H1
              obtain rfl := Option.some.inj H
              go_wp2
              go_ret
              exact ⟨by first | rfl | (simp [errW_none, errW_some] <;> rfl) | (simp [*, errW_none, errW_some] <;> rfl), by repeat (first | (with_reducible first | exact HB.out | apply below_alloc | apply pw_below_drewN | apply below_drew1) | exact HB.out)⟩

/-- THE ONE PURE STATEMENT of laws_FnLyndonLists: yours. -/
def laws_FnLyndonLists.Pure : Prop := ∀ (l0 : List Int) (l1 : List Int), l0.length ≤ maxLen → l0.length * 1 ≤ 140737488351232 → (∀ x ∈ l0, (Lit.int .u8 x).wf = true) → l1.length ≤ maxLen → l1.length * 1 ≤ 140737488351232 → (∀ x ∈ l1, (Lit.int .u8 x).wf = true) → ∃ k, laws_FnLyndonLists.f k l0 l1 = some true
theorem laws_FnLyndonLists.walk (P : laws_FnLyndonLists.Pure) (a0 : Option Addr) (len0 cap0 : Nat) (z0 : List Int) (a1 : Option Addr) (len1 cap1 : Nat) (z1 : List Int) (w : World) (w0 : (a0 = none ∧ len0 = 0 ∧ cap0 = 0 ∧ z0 = []) ∨ ∃ x, a0 = some x ∧ len0 ≤ cap0 ∧ cap0 ≤ maxLen ∧ z0.length = cap0 ∧ (∀ i, i < z0.length → w.cell? (x.add i) = some (.int .u8 (z0.getD i 0))) ∧ ∀ n ∈ z0, (Lit.int .u8 n).wf = true) (y0 : len0 * 1 ≤ 140737488351232) (w1 : (a1 = none ∧ len1 = 0 ∧ cap1 = 0 ∧ z1 = []) ∨ ∃ x, a1 = some x ∧ len1 ≤ cap1 ∧ cap1 ≤ maxLen ∧ z1.length = cap1 ∧ (∀ i, i < z1.length → w.cell? (x.add i) = some (.int .u8 (z1.getD i 0))) ∧ ∀ n ∈ z1, (Lit.int .u8 n).wf = true) (y1 : len1 * 1 ≤ 140737488351232) :
    Calls Try.prog 7 #[.slice a0 len0 cap0, .slice a1 len1 cap1] w fun e w' => e = .returned (.bool true) ∧ Below w.heap.size w w' := by
  obtain ⟨l0, rfl, hr0, hm0, hw0, hc0⟩ := ReadsInt.ofRowC w0
  obtain ⟨l1, rfl, hr1, hm1, hw1, hc1⟩ := ReadsInt.ofRowC w1
  obtain ⟨k, h⟩ := P l0 l1 hm0 y0 hw0 hm1 y1 hw1
  refine (laws_FnLyndonLists.calls k _ _ l0 _ _ l1 true w (Kd.C_of_reads (d := (0 : Int)) (h1 := fun _ => rfl) hr0) hc0 (Kd.C_of_reads (d := (0 : Int)) (h1 := fun _ => rfl) hr1) hc1 h).mono ?_
  rintro e w' ⟨rfl, hd⟩
  exact ⟨rfl, hd⟩

end Go.Proofs.Ytoledgkfohkfkaa.HFnLyndonLists
