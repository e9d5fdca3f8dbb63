/- Written by this session's program hprint.py out of the loaded functions: what each function computes, and the proof that the machine's call does just that. -/
import Derived.Test.YthaplgbhhppniaaHFnGrayGrowthsx0
import Derived.Test.YthaplgbhhppniaaHFnGrayGrowthsx1
import Derived.Test.YthaplgbhhppniaaHFnGrayGrowthsx2
import Derived.Test.YthaplgbhhppniaaHFnGrayGrowthsx3
import Derived.Test.YthaplgbhhppniaaHFnGrayGrowthsx4
namespace Go.Proofs.Ythaplgbhhppniaa.HFnGrayGrowths
open Go.RowKit Go.Proofs.YthaplgbhhppniaaW.PrintWords Go.Proofs.YthaplgbhhppniaaW.PrintLast Go.Proofs.YthaplgbhhppniaaW.PrintMore
attribute [local go_sem] max2_int min2_int max_two min_two max_three min_three max_four min_four   -- for this text's walks alone
set_option linter.unusedVariables false
set_option linter.unusedSimpArgs false

/-! ### laws_FnGrayGrowths: function 11 -/
mutual
def laws_FnGrayGrowths.j0 : Nat → Int → List (List Int) → Bool → Bool → Option (Bool)
  | 0, _, _, _, _ => none
  | k + 1, x5, x6, x9, x40 => if x40 = true then (some false) else (if x9 = true then ((impl_CountGrowths.f k x5).bind fun bt252 => (if bt252.2 = true then (laws_FnGrayGrowths.j1 k x6 bt252.1 ((x6.length : Int) != bt252.1)) else (laws_FnGrayGrowths.j1 k x6 bt252.1 true))) else (some true))
def laws_FnGrayGrowths.j1 : Nat → List (List Int) → Int → Bool → Option (Bool)
  | 0, _, _, _ => none
  | k + 1, x6, x10, x55 => if x55 = true then (some false) else (if 0 ≤ x10 then (if (x10 : Int).toNat ≤ 281474976710656 then (laws_FnGrayGrowths.l0 k x6 (List.replicate (x10 : Int).toNat false) x6 (x6.length : Int) 0) else (none)) else (none))
def laws_FnGrayGrowths.l0 : Nat → List (List Int) → List Bool → List (List Int) → Int → Int → Option (Bool)
  | 0, _, _, _, _, _ => none
  | k + 1, x6, x12, x58, x59, x60 => if x60 < x59 then (if 0 ≤ x60 then (if x60 < (x58.length : Int) then ((impl_RankGrowth.f k (rd_L1 x58 x60)).bind fun bt258 => (if bt258.2 = true then (if 0 ≤ bt258.1 then (if bt258.1 < (x12.length : Int) then (if rdOf false x12 bt258.1 = true then (some false) else (if x60 > 0 then (if 0 ≤ (wrap64 (x60 - 1)) then (if (wrap64 (x60 - 1)) < (x6.length : Int) then ((laws_tFar.f k (rd_L1 x58 x60) (rd_L1 x6 (wrap64 (x60 - 1)))).bind fun t262 => (if t262 = 1 then (laws_FnGrayGrowths.l0 k x6 (x12.set (bt258.1 : Int).toNat true) x58 x59 (wrap64 (x60 + 1))) else (some false))) else (none)) else (none)) else (laws_FnGrayGrowths.l0 k x6 (x12.set (bt258.1 : Int).toNat true) x58 x59 (wrap64 (x60 + 1))))) else (none)) else (none)) else (some false))) else (none)) else (none)) else (some true)
end
def laws_FnGrayGrowths.f (k : Nat) (l0 : List Int) (l1 : List Int) : Option (Bool) := (laws_big.f l0 l1).bind fun t241 => (if t241 = true then (some true) else ((spec_DrawGrayGrowths.f l0).bind fun t242 => ((impl_GrayGrowths.f k t242).bind fun bt243 => ((spec_GrayGrowths.f k t242).bind fun bt247 => (if (bt243.2 != bt247.2) = true then (laws_FnGrayGrowths.j0 k t242 bt243.1 bt247.2 true) else ((laws_tSameRows.f k bt243.1 bt247.1).bind fun t251 => (laws_FnGrayGrowths.j0 k t242 bt243.1 bt247.2 (!t251))))))))
theorem laws_FnGrayGrowths.mono_l : ∀ k, (∀ y0 y1 y2 y3, LeO (laws_FnGrayGrowths.j0 k y0 y1 y2 y3) (laws_FnGrayGrowths.j0 (k + 1) y0 y1 y2 y3)) ∧ (∀ y0 y1 y2, LeO (laws_FnGrayGrowths.j1 k y0 y1 y2) (laws_FnGrayGrowths.j1 (k + 1) y0 y1 y2)) ∧ (∀ y0 y1 y2 y3 y4, LeO (laws_FnGrayGrowths.l0 k y0 y1 y2 y3 y4) (laws_FnGrayGrowths.l0 (k + 1) y0 y1 y2 y3 y4))
  | 0 => ⟨fun _ _ _ _ r h => by simp [laws_FnGrayGrowths.j0] at h, fun _ _ _ r h => by simp [laws_FnGrayGrowths.j1] at h, fun _ _ _ _ _ r h => by simp [laws_FnGrayGrowths.l0] at h⟩
  | k + 1 => by
    obtain ⟨ih0, ih1, ih2⟩ := laws_FnGrayGrowths.mono_l k
    refine ⟨?_, ?_, ?_⟩
    · intro y0 y1 y2 y3
      unfold laws_FnGrayGrowths.j0
      repeat' first
      | (with_reducible exact ih0 _ _ _ _)
      | (with_reducible exact ih1 _ _ _)
      | (with_reducible exact ih2 _ _ _ _ _)
      | (with_reducible exact impl_CountGrowths.mono _ _)
      | (with_reducible exact impl_GrayGrowths.mono _ _)
      | (with_reducible exact impl_RankGrowth.mono _ _)
      | (with_reducible exact laws_tFar.mono _ _ _)
      | (with_reducible exact laws_tSameRows.mono _ _ _)
      | (with_reducible exact spec_GrayGrowths.mono _ _)
      | (with_reducible exact LeO.refl _)
      | (with_reducible exact LeO.none _)
      | (with_reducible refine LeO.ite ?_ ?_)
      | (with_reducible refine LeO.bind ?_ (fun _ => ?_))
      | exact ih0 _ _ _ _
      | exact ih1 _ _ _
      | exact ih2 _ _ _ _ _
      | exact impl_CountGrowths.mono _ _
      | exact impl_GrayGrowths.mono _ _
      | exact impl_RankGrowth.mono _ _
      | exact laws_tFar.mono _ _ _
      | exact laws_tSameRows.mono _ _ _
      | exact spec_GrayGrowths.mono _ _
      | exact LeO.none _
      | refine LeO.ite ?_ ?_
      | refine LeO.bind ?_ (fun _ => ?_)
    · intro y0 y1 y2
      unfold laws_FnGrayGrowths.j1
      repeat' first
      | (with_reducible exact ih0 _ _ _ _)
      | (with_reducible exact ih1 _ _ _)
      | (with_reducible exact ih2 _ _ _ _ _)
      | (with_reducible exact impl_CountGrowths.mono _ _)
      | (with_reducible exact impl_GrayGrowths.mono _ _)
      | (with_reducible exact impl_RankGrowth.mono _ _)
      | (with_reducible exact laws_tFar.mono _ _ _)
      | (with_reducible exact laws_tSameRows.mono _ _ _)
      | (with_reducible exact spec_GrayGrowths.mono _ _)
      | (with_reducible exact LeO.refl _)
      | (with_reducible exact LeO.none _)
      | (with_reducible refine LeO.ite ?_ ?_)
      | (with_reducible refine LeO.bind ?_ (fun _ => ?_))
      | exact ih0 _ _ _ _
      | exact ih1 _ _ _
      | exact ih2 _ _ _ _ _
      | exact impl_CountGrowths.mono _ _
      | exact impl_GrayGrowths.mono _ _
      | exact impl_RankGrowth.mono _ _
      | exact laws_tFar.mono _ _ _
      | exact laws_tSameRows.mono _ _ _
      | exact spec_GrayGrowths.mono _ _
      | exact LeO.none _
      | refine LeO.ite ?_ ?_
      | refine LeO.bind ?_ (fun _ => ?_)
    · intro y0 y1 y2 y3 y4
      unfold laws_FnGrayGrowths.l0
      repeat' first
      | (with_reducible exact ih0 _ _ _ _)
      | (with_reducible exact ih1 _ _ _)
      | (with_reducible exact ih2 _ _ _ _ _)
      | (with_reducible exact impl_CountGrowths.mono _ _)
      | (with_reducible exact impl_GrayGrowths.mono _ _)
      | (with_reducible exact impl_RankGrowth.mono _ _)
      | (with_reducible exact laws_tFar.mono _ _ _)
      | (with_reducible exact laws_tSameRows.mono _ _ _)
      | (with_reducible exact spec_GrayGrowths.mono _ _)
      | (with_reducible exact LeO.refl _)
      | (with_reducible exact LeO.none _)
      | (with_reducible refine LeO.ite ?_ ?_)
      | (with_reducible refine LeO.bind ?_ (fun _ => ?_))
      | exact ih0 _ _ _ _
      | exact ih1 _ _ _
      | exact ih2 _ _ _ _ _
      | exact impl_CountGrowths.mono _ _
      | exact impl_GrayGrowths.mono _ _
      | exact impl_RankGrowth.mono _ _
      | exact laws_tFar.mono _ _ _
      | exact laws_tSameRows.mono _ _ _
      | exact spec_GrayGrowths.mono _ _
      | exact LeO.none _
      | refine LeO.ite ?_ ?_
      | refine LeO.bind ?_ (fun _ => ?_)
theorem laws_FnGrayGrowths.mono : ∀ a0 a1 k, LeO (laws_FnGrayGrowths.f k a0 a1) (laws_FnGrayGrowths.f (k + 1) a0 a1) := by
  intro a0 a1 k
  obtain ⟨ih0, ih1, ih2⟩ := laws_FnGrayGrowths.mono_l k
  unfold laws_FnGrayGrowths.f
  repeat' first
      | (with_reducible exact ih0 _ _ _ _)
      | (with_reducible exact ih1 _ _ _)
      | (with_reducible exact ih2 _ _ _ _ _)
      | (with_reducible exact impl_CountGrowths.mono _ _)
      | (with_reducible exact impl_GrayGrowths.mono _ _)
      | (with_reducible exact impl_RankGrowth.mono _ _)
      | (with_reducible exact laws_tFar.mono _ _ _)
      | (with_reducible exact laws_tSameRows.mono _ _ _)
      | (with_reducible exact spec_GrayGrowths.mono _ _)
      | (with_reducible exact LeO.refl _)
      | (with_reducible exact LeO.none _)
      | (with_reducible refine LeO.ite ?_ ?_)
      | (with_reducible refine LeO.bind ?_ (fun _ => ?_))
      | exact ih0 _ _ _ _
      | exact ih1 _ _ _
      | exact ih2 _ _ _ _ _
      | exact impl_CountGrowths.mono _ _
      | exact impl_GrayGrowths.mono _ _
      | exact impl_RankGrowth.mono _ _
      | exact laws_tFar.mono _ _ _
      | exact laws_tSameRows.mono _ _ _
      | exact spec_GrayGrowths.mono _ _
      | exact LeO.none _
      | refine LeO.ite ?_ ?_
      | refine LeO.bind ?_ (fun _ => ?_)
set_option maxHeartbeats 8000000 in
set_option maxRecDepth 100000 in
theorem laws_FnGrayGrowths.calls (k : Nat) (A0 : Option Addr) (c0 : Nat) (l0 : List Int) (A1 : Option Addr) (c1 : Nat) (l1 : List Int) (r : Bool) (w : World) (hr0 : Kd.C (Kd.int .u8) w A0 l0.length l0) (hc0 : l0.length ≤ c0) (hr1 : Kd.C (Kd.int .u8) w A1 l1.length l1) (hc1 : l1.length ≤ c1) (h : laws_FnGrayGrowths.f k l0 l1 = some r) :
    Calls Try.prog 11 #[.slice A0 l0.length c0, .slice A1 l1.length c1] w fun e w' => e = .returned (.bool r) ∧ Below w.heap.size w w' := by
  have HR0 := Aside0.mk hr0
  have HC0 := Aside0.mk hc0
  clear hr0 hc0
  have HR1 := Aside0.mk hr1
  have HC1 := Aside0.mk hc1
  clear hr1 hc1
  have HB := Aside0.mk (Below.refl w.heap.size w)
  have H : ((laws_big.f l0 l1).bind fun t241 => (if t241 = true then (some true) else ((spec_DrawGrayGrowths.f l0).bind fun t242 => ((impl_GrayGrowths.f k t242).bind fun bt243 => ((spec_GrayGrowths.f k t242).bind fun bt247 => (if (bt243.2 != bt247.2) = true then (laws_FnGrayGrowths.j0 k t242 bt243.1 bt247.2 true) else ((laws_tSameRows.f k bt243.1 bt247.1).bind fun t251 => (laws_FnGrayGrowths.j0 k t242 bt243.1 bt247.2 (!t251))))))))) = some r := h
  clear h
  replace H := Option.bind_eq_some_iff.mp H
  obtain ⟨t241, A30, H⟩ := H
  replace H : (if t241 = true then (some true) else ((spec_DrawGrayGrowths.f l0).bind fun t242 => ((impl_GrayGrowths.f k t242).bind fun bt243 => ((spec_GrayGrowths.f k t242).bind fun bt247 => (if (bt243.2 != bt247.2) = true then (laws_FnGrayGrowths.j0 k t242 bt243.1 bt247.2 true) else ((laws_tSameRows.f k bt243.1 bt247.1).bind fun t251 => (laws_FnGrayGrowths.j0 k t242 bt243.1 bt247.2 (!t251)))))))) = some r := H
  have A3 := Aside0.mk A30
  clear A30
  by_cases c4 : t241 = true
  · subst c4
    have H1 : (some true) = some r := by rw [if_pos rfl] at H; exact H
    clear H
    have H := H1
    clear H1
    obtain rfl := Option.some.inj H
    go_enter Try.func11, Try.ntmps11
    go_wp2_with (first | ((with_reducible refine gate_callee (f := 32) rfl ?_); refine goesL_ (some 19) rfl rfl Try.func32 (by kernel_rfl) rfl #[.slice A0 l0.length c0, .slice A1 l1.length c1] rfl (by (try simp only [List.map_toArray, List.map_cons, List.map_nil]); first | done | rfl | (simp only [List.length_drop, List.length_take]; rfl)) ?_; (with_reducible refine (laws_big.calls _ _ l0 _ _ l1 true _ ?side1 ?side2 ?side3 ?side4 A3.out).mono ?_); (case side1 => repeat (first | exact HR0.out | (with_reducible refine Kd.C_alloc ?_ _) | (with_reducible refine Kd.C_drewN ?_ _) | (with_reducible refine Kd.C_drew ?_))); (case side2 => exact HC0.out); (case side3 => repeat (first | exact HR1.out | (with_reducible refine Kd.C_alloc ?_ _) | (with_reducible refine Kd.C_drewN ?_ _) | (with_reducible refine Kd.C_drew ?_))); (case side4 => exact HC1.out); rintro e w' ⟨rfl, ⟨nd, rfl⟩⟩; refine ⟨_, rfl, ?_⟩))
    go_ret
    exact ⟨by first | rfl | (simp [errW_none, errW_some] <;> rfl) | (simp [*, errW_none, errW_some] <;> rfl), by repeat (first | (with_reducible first | exact HB.out | apply below_alloc | apply pw_below_drewN | apply below_drew1) | exact HB.out)⟩
  · replace c4 := Bool.eq_false_iff.mpr c4
    subst c4
    have H1 : ((spec_DrawGrayGrowths.f l0).bind fun t242 => ((impl_GrayGrowths.f k t242).bind fun bt243 => ((spec_GrayGrowths.f k t242).bind fun bt247 => (if (bt243.2 != bt247.2) = true then (laws_FnGrayGrowths.j0 k t242 bt243.1 bt247.2 true) else ((laws_tSameRows.f k bt243.1 bt247.1).bind fun t251 => (laws_FnGrayGrowths.j0 k t242 bt243.1 bt247.2 (!t251))))))) = some r := by rw [if_neg (show ¬ (false = true) by decide)] at H; exact H
    clear H
    have H := H1
    clear H1
    replace H := Option.bind_eq_some_iff.mp H
    obtain ⟨t242, A50, H⟩ := H
    replace H : ((impl_GrayGrowths.f k t242).bind fun bt243 => ((spec_GrayGrowths.f k t242).bind fun bt247 => (if (bt243.2 != bt247.2) = true then (laws_FnGrayGrowths.j0 k t242 bt243.1 bt247.2 true) else ((laws_tSameRows.f k bt243.1 bt247.1).bind fun t251 => (laws_FnGrayGrowths.j0 k t242 bt243.1 bt247.2 (!t251)))))) = some r := H
    have A5 := Aside0.mk A50
    clear A50
    replace H := Option.bind_eq_some_iff.mp H
    obtain ⟨⟨t243, t244⟩, A60, H⟩ := H
    replace H : ((spec_GrayGrowths.f k t242).bind fun bt247 => (if (t244 != bt247.2) = true then (laws_FnGrayGrowths.j0 k t242 t243 bt247.2 true) else ((laws_tSameRows.f k t243 bt247.1).bind fun t251 => (laws_FnGrayGrowths.j0 k t242 t243 bt247.2 (!t251))))) = some r := H
    have A6 := Aside0.mk A60
    clear A60
    replace H := Option.bind_eq_some_iff.mp H
    obtain ⟨⟨t247, t248⟩, A70, H⟩ := H
    replace H : (if (t244 != t248) = true then (laws_FnGrayGrowths.j0 k t242 t243 t248 true) else ((laws_tSameRows.f k t243 t247).bind fun t251 => (laws_FnGrayGrowths.j0 k t242 t243 t248 (!t251)))) = some r := H
    have A7 := Aside0.mk A70
    clear A70
    have HC8 := Aside0.mk H
    clear H
    go_enter Try.func11, Try.ntmps11
    go_upto_region 6 with (first | ((with_reducible refine gate_callee (f := 32) rfl ?_); refine goesL_ (some 19) rfl rfl Try.func32 (by kernel_rfl) rfl #[.slice A0 l0.length c0, .slice A1 l1.length c1] rfl (by (try simp only [List.map_toArray, List.map_cons, List.map_nil]); first | done | rfl | (simp only [List.length_drop, List.length_take]; rfl)) ?_; (with_reducible refine (laws_big.calls _ _ l0 _ _ l1 false _ ?side1 ?side2 ?side3 ?side4 A3.out).mono ?_); (case side1 => repeat (first | exact HR0.out | (with_reducible refine Kd.C_alloc ?_ _) | (with_reducible refine Kd.C_drewN ?_ _) | (with_reducible refine Kd.C_drew ?_))); (case side2 => exact HC0.out); (case side3 => repeat (first | exact HR1.out | (with_reducible refine Kd.C_alloc ?_ _) | (with_reducible refine Kd.C_drewN ?_ _) | (with_reducible refine Kd.C_drew ?_))); (case side4 => exact HC1.out); rintro e w' ⟨rfl, ⟨nd, rfl⟩⟩; refine ⟨_, rfl, ?_⟩) | ((with_reducible refine gate_callee (f := 46) rfl ?_); refine goesL_ (some 21) rfl rfl Try.func46 (by kernel_rfl) rfl #[.slice A0 l0.length c0] rfl (by (try simp only [List.map_toArray, List.map_cons, List.map_nil]); first | done | rfl | (simp only [List.length_drop, List.length_take]; rfl)) ?_; (with_reducible refine (spec_DrawGrayGrowths.calls _ _ l0 t242 _ ?side1 ?side2 A5.out).mono ?_); (case side1 => repeat (first | exact HR0.out | (with_reducible refine Kd.C_alloc ?_ _) | (with_reducible refine Kd.C_drewN ?_ _) | (with_reducible refine Kd.C_drew ?_))); (case side2 => exact HC0.out); rintro e w9 ⟨rfl, hb⟩; refine ⟨_, rfl, ?_⟩; have n0_ := Aside0.mk (below_step (by repeat (first | (with_reducible first | exact HB.out | apply below_alloc | apply pw_below_drewN | apply below_drew1) | exact HB.out)) hb); clear HB; have HB := n0_; clear n0_; (try clear hb); (try clear hb2); (try clear hk); (try clear hi)) | ((with_reducible refine gate_callee (f := 25) rfl ?_); refine goesL_ (some 24) rfl rfl Try.func25 (by kernel_rfl) rfl #[.int .i64 t242] rfl (by (try simp only [List.map_toArray, List.map_cons, List.map_nil]); first | done | rfl | (simp only [List.length_drop, List.length_take]; rfl)) ?_; (with_reducible refine (impl_GrayGrowths.calls k t242 t243 t244 _ A6.out).mono ?_); rintro e w10 ⟨v245, rfl, ho0, hb⟩; refine ⟨_, rfl, ?_⟩; have n0_ := Aside0.mk (Kd.S_lower ho0 (below_size (by repeat (first | (with_reducible first | exact HB.out | apply below_alloc | apply pw_below_drewN | apply below_drew1) | exact HB.out)))); have n1_ := Aside0.mk (below_step (by repeat (first | (with_reducible first | exact HB.out | apply below_alloc | apply pw_below_drewN | apply below_drew1) | exact HB.out)) hb); clear HB; have HO246 := n0_; have HB := n1_; clear n0_ n1_; (try clear hb); (try clear hb2); (try clear hk); (try clear hi); (try clear ho0)) | ((with_reducible refine gate_callee (f := 24) rfl ?_); refine goesL_ (some 29) rfl rfl Try.func24 (by kernel_rfl) rfl #[.int .i64 t242] rfl (by (try simp only [List.map_toArray, List.map_cons, List.map_nil]); first | done | rfl | (simp only [List.length_drop, List.length_take]; rfl)) ?_; (with_reducible refine (spec_GrayGrowths.calls k t242 t247 t248 _ A7.out).mono ?_); rintro e w11 ⟨v249, rfl, ho0, hb⟩; refine ⟨_, rfl, ?_⟩; have n0_ := Aside0.mk (Kd.S_elder' (by (with_reducible repeat (first | apply Kd.S_alloc | apply Kd.S_drewN | apply Kd.S_drew)); (first | exact HO246.out | (have hz_ := HO246.out; (try simp only [ob_] at hz_); (try simp only [ob_]); exact hz_))) (Kd.S_base ho0) hb); have n1_ := Aside0.mk (Kd.S_lower (Kd.S_new' ho0 (Kd.S_lt (by (with_reducible repeat (first | apply Kd.S_alloc | apply Kd.S_drewN | apply Kd.S_drew)); (first | exact HO246.out | (have hz_ := HO246.out; (try simp only [ob_] at hz_); (try simp only [ob_]); exact hz_))))) (below_size (by repeat (first | (with_reducible first | exact HB.out | apply below_alloc | apply pw_below_drewN | apply below_drew1) | exact HB.out)))); have n2_ := Aside0.mk (below_step (by repeat (first | (with_reducible first | exact HB.out | apply below_alloc | apply pw_below_drewN | apply below_drew1) | exact HB.out)) hb); clear HO246; clear HB; have HO246 := n0_; have HO250 := n1_; have HB := n2_; clear n0_ n1_ n2_; (try clear hb); (try clear hb2); (try clear hk); (try clear hi); (try clear ho0)))
    (try simp only [Act.put, List.setIfInBounds_toArray, List.set_cons_zero, List.set_cons_succ])
    go_cut [40] (fun v40 wc => ∃ (kq : Nat) (x40_7 : Bool), v40 = .bool x40_7 ∧ Aside0 (laws_FnGrayGrowths.j0 kq t242 t243 t248 x40_7 = some r) ∧ Aside0 (kq ≤ k) ∧ Aside0 (Kd.S (Kd.slice 3 (Kd.int .i64)) 22 wc w.heap.size (fun _ => True) v245 t243) ∧ Aside0 (Below w.heap.size w wc))
    case first =>
      have H := HC8.out
      clear HC8
      by_cases c12 : (t244 != t248) = true
      · rw [if_pos c12] at H
        have c12b0 : (t244 != t248) = true := c12
        (try (have c12b1 : decide (t244 = t248) = false := by simpa using c12))
        (try (have c12b2 : (t244 == t248) = false := by simpa using c12))
        (try (have c12b3 : ¬ (t244 = t248) := by simpa using c12))
        clear c12
        (first | rw [c12b0] | (simp only [i64_w, i32_w]; rw [c12b0]) | skip)
        have H' := Aside0.mk H
        clear H
        go_wp2
        go_meet
        case rel => exact ⟨_, (true), (by first | rfl | (simp; done) | (simp [*]; done)), H', ⟨by first | omega | exact Nat.le_refl _⟩, ⟨by (with_reducible repeat (first | apply Kd.S_alloc | apply Kd.S_drewN | apply Kd.S_drew)); exact Kd.S_mono HO246.out (fun _ hk => trivial)⟩, ⟨by repeat (first | (with_reducible first | exact HB.out | apply below_alloc | apply pw_below_drewN | apply below_drew1) | exact HB.out)⟩⟩
      · rw [if_neg c12] at H
        have c12b0 : (t244 != t248) = false := by simpa using c12
        (try (have c12b1 : decide (t244 = t248) = true := by simpa using c12))
        (try (have c12b2 : (t244 == t248) = true := by simpa using c12))
        clear c12
        (first | rw [c12b0] | (simp only [i64_w, i32_w]; rw [c12b0]) | skip)
        replace H := Option.bind_eq_some_iff.mp H
        obtain ⟨t251, A130, H⟩ := H
        replace H : (laws_FnGrayGrowths.j0 k t242 t243 t248 (!t251)) = some r := H
        have A13 := Aside0.mk A130
        clear A130
        have H' := Aside0.mk H
        clear H
        obtain ⟨Ao14, co14, eo14⟩ := Kd.S_slice HO246.out
        subst eo14
        obtain ⟨Ao15, co15, eo15⟩ := Kd.S_slice HO250.out
        subst eo15
        go_wp2_with (first | (go_at_call 47; (with_reducible refine (laws_tSameRows.calls k _ _ t243 _ _ t247 t251 _ ?side1 ?side2 ?side3 ?side4 A13.out).mono ?_); (case side1 => repeat (first | exact (Kd.S_reads' HO246.out).2.2 | (with_reducible refine Kd.C_alloc ?_ _) | (with_reducible refine Kd.C_drewN ?_ _) | (with_reducible refine Kd.C_drew ?_))); (case side2 => exact (Kd.S_reads' HO246.out).2.1); (case side3 => repeat (first | exact (Kd.S_reads' HO250.out).2.2 | (with_reducible refine Kd.C_alloc ?_ _) | (with_reducible refine Kd.C_drewN ?_ _) | (with_reducible refine Kd.C_drew ?_))); (case side4 => exact (Kd.S_reads' HO250.out).2.1); rintro e w' ⟨rfl, ⟨nd, rfl⟩⟩))
        go_meet
        case rel => exact ⟨_, (!t251), (by first | rfl | (simp; done) | (simp [*]; done)), H', ⟨by first | omega | exact Nat.le_refl _⟩, ⟨by (with_reducible repeat (first | apply Kd.S_alloc | apply Kd.S_drewN | apply Kd.S_drew)); exact Kd.S_mono HO246.out (fun _ hk => trivial)⟩, ⟨by repeat (first | (with_reducible first | exact HB.out | apply below_alloc | apply pw_below_drewN | apply below_drew1) | exact HB.out)⟩⟩
    case rest =>
      clear HC8
      try clear c1
      try clear c2
      try clear p2
      try clear c3
      try clear c4
      try clear c11
      try clear c12
      try clear c12b0
      try clear c12b1
      try clear c12b2
      obtain ⟨kq, x40_7, rfl, HA, HJ7, HO_6, HB⟩ := hcut
      cases kq with
      | zero => exact absurd HA.out (by simp [laws_FnGrayGrowths.j0])
      | succ kj7 =>
        have H := HA.out
        clear HA
        simp only [laws_FnGrayGrowths.j0] at H
        by_cases c16 : x40_7 = true
        · subst c16
          have H1 : (some false) = some r := by rw [if_pos rfl] at H; exact H
          clear H
          have H := H1
          clear H1
          obtain rfl := Option.some.inj H
          go_wp2
          go_ret
          exact ⟨by first | rfl | (simp [errW_none, errW_some] <;> rfl) | (simp [*, errW_none, errW_some] <;> rfl), by repeat (first | (with_reducible first | exact HB.out | apply below_alloc | apply pw_below_drewN | apply below_drew1) | exact HB.out)⟩
        · replace c16 := Bool.eq_false_iff.mpr c16
          subst c16
          have H1 : (if t248 = true then ((impl_CountGrowths.f kj7 t242).bind fun bt252 => (if bt252.2 = true then (laws_FnGrayGrowths.j1 kj7 t243 bt252.1 ((t243.length : Int) != bt252.1)) else (laws_FnGrayGrowths.j1 kj7 t243 bt252.1 true))) else (some true)) = some r := by rw [if_neg (show ¬ (false = true) by decide)] at H; exact H
          clear H
          have H := H1
          clear H1
          by_cases c17 : t248 = true
          · subst c17
            have H1 : ((impl_CountGrowths.f kj7 t242).bind fun bt252 => (if bt252.2 = true then (laws_FnGrayGrowths.j1 kj7 t243 bt252.1 ((t243.length : Int) != bt252.1)) else (laws_FnGrayGrowths.j1 kj7 t243 bt252.1 true))) = some r := by rw [if_pos rfl] at H; exact H
            clear H
            have H := H1
            clear H1
            replace H := Option.bind_eq_some_iff.mp H
            obtain ⟨⟨t252, t253⟩, A180, H⟩ := H
            replace H : (if t253 = true then (laws_FnGrayGrowths.j1 kj7 t243 t252 ((t243.length : Int) != t252)) else (laws_FnGrayGrowths.j1 kj7 t243 t252 true)) = some r := H
            have A18 := Aside0.mk A180
            clear A180
            have HC19 := Aside0.mk H
            clear H
            go_upto_region 11 with (first | ((with_reducible refine gate_callee (f := 37) rfl ?_); refine goesL_ (some 45) rfl rfl Try.func37 (by kernel_rfl) rfl #[.int .i64 t242] rfl (by (try simp only [List.map_toArray, List.map_cons, List.map_nil]); first | done | rfl | (simp only [List.length_drop, List.length_take]; rfl)) ?_; (with_reducible refine (impl_CountGrowths.calls kj7 t242 t252 t253 _ A18.out).mono ?_); rintro e w20 ⟨rfl, hb⟩; refine ⟨_, rfl, ?_⟩; have n0_ := Aside0.mk (Kd.S_below (by (with_reducible repeat (first | apply Kd.S_alloc | apply Kd.S_drewN | apply Kd.S_drew)); (first | exact HO_6.out | (have hz_ := HO_6.out; (try simp only [ob_] at hz_); (try simp only [ob_]); exact hz_))) hb); have n1_ := Aside0.mk (below_step (by repeat (first | (with_reducible first | exact HB.out | apply below_alloc | apply pw_below_drewN | apply below_drew1) | exact HB.out)) hb); clear HO_6; clear HB; have HO_6 := n0_; have HB := n1_; clear n0_ n1_; (try clear hb); (try clear hb2); (try clear hk); (try clear hi)))
            (try simp only [Act.put, List.setIfInBounds_toArray, List.set_cons_zero, List.set_cons_succ])
            go_cut [55] (fun v55 wc => ∃ (kq : Nat) (x55_18 : Bool), v55 = .bool x55_18 ∧ Aside0 (laws_FnGrayGrowths.j1 kq t243 t252 x55_18 = some r) ∧ Aside0 (kq ≤ kj7) ∧ Aside0 (Kd.S (Kd.slice 3 (Kd.int .i64)) 22 wc w.heap.size (fun _ => True) v245 t243) ∧ Aside0 (Below w.heap.size w wc))
            case first =>
              have H := HC19.out
              clear HC19
              by_cases c21 : t253 = true
              · subst c21
                have H1 : (laws_FnGrayGrowths.j1 kj7 t243 t252 ((t243.length : Int) != t252)) = some r := by rw [if_pos rfl] at H; exact H
                clear H
                have H := H1
                clear H1
                have H' := Aside0.mk H
                clear H
                obtain ⟨Ao22, co22, eo22⟩ := Kd.S_slice HO_6.out
                subst eo22
                go_wp2
                go_meet
                case rel => exact ⟨_, (((t243.length : Int) != t252)), (by first | rfl | (simp; done) | (simp [*]; done)), H', ⟨by have := HJ7.out; first | omega | exact Nat.le_refl _⟩, ⟨by (with_reducible repeat (first | apply Kd.S_alloc | apply Kd.S_drewN | apply Kd.S_drew)); (first | exact HO_6.out | (have hz_ := HO_6.out; (try simp only [ob_] at hz_); (try simp only [ob_]); exact hz_))⟩, ⟨by repeat (first | (with_reducible first | exact HB.out | apply below_alloc | apply pw_below_drewN | apply below_drew1) | exact HB.out)⟩⟩
              · replace c21 := Bool.eq_false_iff.mpr c21
                subst c21
                have H1 : (laws_FnGrayGrowths.j1 kj7 t243 t252 true) = some r := by rw [if_neg (show ¬ (false = true) by decide)] at H; exact H
                clear H
                have H := H1
                clear H1
                have H' := Aside0.mk H
                clear H
                go_wp2
                go_meet
                case rel => exact ⟨_, (true), (by first | rfl | (simp; done) | (simp [*]; done)), H', ⟨by have := HJ7.out; first | omega | exact Nat.le_refl _⟩, ⟨by (with_reducible repeat (first | apply Kd.S_alloc | apply Kd.S_drewN | apply Kd.S_drew)); (first | exact HO_6.out | (have hz_ := HO_6.out; (try simp only [ob_] at hz_); (try simp only [ob_]); exact hz_))⟩, ⟨by repeat (first | (with_reducible first | exact HB.out | apply below_alloc | apply pw_below_drewN | apply below_drew1) | exact HB.out)⟩⟩
            case rest =>
              clear HC19
              try clear c1
              try clear c2
              try clear p2
              try clear c3
              try clear c4
              try clear c11
              try clear c12
              try clear c12b0
              try clear c12b1
              try clear c12b2
              try clear c16
              try clear c17
              try clear c21
              try clear p2
              obtain ⟨kq, x55_18, rfl, HA, HJ18, HO_6, HB⟩ := hcut
              cases kq with
              | zero => exact absurd HA.out (by simp [laws_FnGrayGrowths.j1])
              | succ kj18 =>
                have H := HA.out
                clear HA
                simp only [laws_FnGrayGrowths.j1] at H
                by_cases c23 : x55_18 = true
                · subst c23
                  have H1 : (some false) = some r := by rw [if_pos rfl] at H; exact H
                  clear H
                  have H := H1
                  clear H1
                  obtain rfl := Option.some.inj H
                  go_wp2
                  go_ret
                  exact ⟨by first | rfl | (simp [errW_none, errW_some] <;> rfl) | (simp [*, errW_none, errW_some] <;> rfl), by repeat (first | (with_reducible first | exact HB.out | apply below_alloc | apply pw_below_drewN | apply below_drew1) | exact HB.out)⟩
                · replace c23 := Bool.eq_false_iff.mpr c23
                  subst c23
                  have H1 : (if 0 ≤ t252 then (if (t252 : Int).toNat ≤ 281474976710656 then (laws_FnGrayGrowths.l0 kj18 t243 (List.replicate (t252 : Int).toNat false) t243 (t243.length : Int) 0) else (none)) else (none)) = some r := by rw [if_neg (show ¬ (false = true) by decide)] at H; exact H
                  clear H
                  have H := H1
                  clear H1
                  by_cases c24 : 0 ≤ t252
                  · rw [if_pos c24] at H
                    have c24b0 := eq_true c24
                    have c24b1 : decide (0 ≤ t252) = true := decide_eq_true c24
                    clear c24
                    by_cases c25 : (t252 : Int).toNat ≤ 281474976710656
                    · rw [if_pos c25] at H
                      have c25b0 := eq_true c25
                      have c25b1 : decide ((t252 : Int).toNat ≤ 281474976710656) = true := decide_eq_true c25
                      clear c25
                      obtain ⟨y254, hy254⟩ : ∃ y_ : List Bool, y_ = (List.replicate (t252 : Int).toNat false) := ⟨_, rfl⟩
                      replace H : (laws_FnGrayGrowths.l0 kj18 t243 y254 t243 (t243.length : Int) 0) = some r := by first | (rw [hy254]; with_reducible exact H) | (have H2_ := (Option.bind_some _ _).symm.trans H; rw [hy254]; with_reducible exact H2_) | (have H2_ := (Option.bind_some _ _).symm.trans H; with_reducible exact H2_) | with_reducible exact H | (rw [hy254]; exact H) | exact H
                      have Ny254 := Aside0.mk hy254
                      clear hy254
                      have H' := Aside0.mk H
                      clear H
                      go_wp2_with (first | ((with_reducible refine gate_dst (N := 57) rfl ?_); (try (refine gate_guard (by rfl) ?_; dsimp only)); refine Kd.R_make Kd.bool _ 4 rfl (N := 57) rfl 48 _ _ rfl t252 rfl rfl Try.underlying48 (.bool false) 1 info4 rfl (by decide) (by omega) false (ok := fun _ => True) (okp := fun _ => True) rfl (fun _ hk => hk) trivial (of_decide_eq_true (by first | (with_reducible assumption) | assumption)) (Nat.le_trans (Nat.mul_le_mul_right _ (of_decide_eq_true (by first | (with_reducible assumption) | assumption) : t252.toNat ≤ 281474976710656)) (by omega)) (Below.refl _ _) (Nat.le_refl _) ?_; intro v255 w26 ho27 hb hg_ hnew_; clear hg_ hnew_; (first | rw [← Ny254.out] at ho27 | (simp only [Int.reduceToNat] at ho27; rw [← Ny254.out] at ho27)); have n0_ := Aside0.mk (Kd.S_below (by (with_reducible repeat (first | apply Kd.S_alloc | apply Kd.S_drewN | apply Kd.S_drew)); (first | exact HO_6.out | (have hz_ := HO_6.out; (try simp only [ob_] at hz_); (try simp only [ob_]); exact hz_))) hb); have n1_ := Aside0.mk (Kd.R_lower ho27 (below_size (by repeat (first | (with_reducible first | exact HB.out | apply below_alloc | apply pw_below_drewN | apply below_drew1) | exact HB.out)))); have n2_ := Aside0.mk (below_step (by repeat (first | (with_reducible first | exact HB.out | apply below_alloc | apply pw_below_drewN | apply below_drew1) | exact HB.out)) hb); clear HO_6; clear HB; have HO_6 := n0_; have HO256 := n1_; have HB := n2_; clear n0_ n1_ n2_; clear hb ho27; obtain ⟨Ao28, co28, eo28⟩ := Kd.S_slice HO_6.out; subst eo28))
                      go_loopg [60] kj18 (fun kq v60 w' => ∃ (x12_3 : List Bool) (x60_3 : Int), v60 = .int .i64 x60_3 ∧ Aside0 (laws_FnGrayGrowths.l0 kq t243 x12_3 t243 (t243.length : Int) x60_3 = some r) ∧ Aside0 (kq ≤ kj18) ∧ Aside0 (Kd.S (Kd.slice 3 (Kd.int .i64)) 22 w' w.heap.size (fun _ => True) (.slice Ao28 t243.length co28) t243) ∧ Aside0 (Kd.R Kd.bool 4 w' w.heap.size (fun _ => True) v255 x12_3) ∧ Aside0 (Kd.S (Kd.slice 3 (Kd.int .i64)) 22 w' w.heap.size (fun _ => True) (.slice Ao28 t243.length co28) t243) ∧ Aside0 (Below w.heap.size w w'))
                      case atStart => exact ⟨(y254), (0), (by first | rfl | (simp; done) | (simp [*]; done)), H', ⟨Nat.le_refl _⟩, ⟨by (with_reducible repeat (first | apply Kd.S_alloc | apply Kd.S_drewN | apply Kd.S_drew)); (first | exact HO_6.out | (have hz_ := HO_6.out; (try simp only [ob_] at hz_); (try simp only [ob_]); exact hz_))⟩, ⟨by (with_reducible repeat (first | apply Kd.R_alloc | apply Kd.R_drewN | apply Kd.R_drew)); (first | exact HO256.out | (have hz_ := HO256.out; (try simp only [ob_] at hz_); (try simp only [ob_]); exact hz_))⟩, ⟨by (with_reducible repeat (first | apply Kd.S_alloc | apply Kd.S_drewN | apply Kd.S_drew)); (first | exact HO_6.out | (have hz_ := HO_6.out; (try simp only [ob_] at hz_); (try simp only [ob_]); exact hz_))⟩, ⟨by repeat (first | (with_reducible first | exact HB.out | apply below_alloc | apply pw_below_drewN | apply below_drew1) | exact HB.out)⟩⟩
                      case round =>
                        clear H'
                        try clear c1
                        try clear c2
                        try clear p2
                        try clear c3
                        try clear c4
                        try clear c11
                        try clear c12
                        try clear c12b0
                        try clear c12b1
                        try clear c12b2
                        try clear c16
                        try clear c17
                        try clear c21
                        try clear c23
                        try clear c24
                        try clear c24b0
                        try clear c24b1
                        try clear c25
                        try clear c25b0
                        try clear c25b1
                        try clear p2
                        obtain ⟨x12_3, x60_3, rfl, HA, HK3, HO_6, HO_12, HO_58, HB⟩ := hrel
                        cases gk with
                        | zero => exact absurd HA.out (by simp [laws_FnGrayGrowths.l0])
                        | succ k3 =>
                          have H := HA.out
                          clear HA
                          simp only [laws_FnGrayGrowths.l0] at H
                          by_cases c29 : x60_3 < (t243.length : Int)
                          · rw [if_pos c29] at H
                            have c29b0 : decide (x60_3 < (t243.length : Int)) = true := decide_eq_true c29
                            clear c29
                            by_cases c30 : 0 ≤ x60_3
                            · rw [if_pos c30] at H
                              have c30b0 : decide (0 ≤ x60_3) = true := decide_eq_true c30
                              clear c30
                              by_cases c31 : x60_3 < (t243.length : Int)
                              · rw [if_pos c31] at H
                                have c31b0 : decide (x60_3 < (t243.length : Int)) = true := decide_eq_true c31
                                clear c31
                                replace H := Option.bind_eq_some_iff.mp H
                                obtain ⟨⟨t258, t259⟩, A320, H⟩ := H
                                replace H : (if t259 = true then (if 0 ≤ t258 then (if t258 < (x12_3.length : Int) then (if rdOf false x12_3 t258 = true then (some false) else (if x60_3 > 0 then (if 0 ≤ (wrap64 (x60_3 - 1)) then (if (wrap64 (x60_3 - 1)) < (t243.length : Int) then ((laws_tFar.f k3 (rd_L1 t243 x60_3) (rd_L1 t243 (wrap64 (x60_3 - 1)))).bind fun t262 => (if t262 = 1 then (laws_FnGrayGrowths.l0 k3 t243 (x12_3.set (t258 : Int).toNat true) t243 (t243.length : Int) (wrap64 (x60_3 + 1))) else (some false))) else (none)) else (none)) else (laws_FnGrayGrowths.l0 k3 t243 (x12_3.set (t258 : Int).toNat true) t243 (t243.length : Int) (wrap64 (x60_3 + 1))))) else (none)) else (none)) else (some false)) = some r := H
                                have A32 := Aside0.mk A320
                                clear A320
                                by_cases c33 : t259 = true
                                · subst c33
                                  have H1 : (if 0 ≤ t258 then (if t258 < (x12_3.length : Int) then (if rdOf false x12_3 t258 = true then (some false) else (if x60_3 > 0 then (if 0 ≤ (wrap64 (x60_3 - 1)) then (if (wrap64 (x60_3 - 1)) < (t243.length : Int) then ((laws_tFar.f k3 (rd_L1 t243 x60_3) (rd_L1 t243 (wrap64 (x60_3 - 1)))).bind fun t262 => (if t262 = 1 then (laws_FnGrayGrowths.l0 k3 t243 (x12_3.set (t258 : Int).toNat true) t243 (t243.length : Int) (wrap64 (x60_3 + 1))) else (some false))) else (none)) else (none)) else (laws_FnGrayGrowths.l0 k3 t243 (x12_3.set (t258 : Int).toNat true) t243 (t243.length : Int) (wrap64 (x60_3 + 1))))) else (none)) else (none)) = some r := by rw [if_pos rfl] at H; exact H
                                  clear H
                                  have H := H1
                                  clear H1
                                  by_cases c34 : 0 ≤ t258
                                  · rw [if_pos c34] at H
                                    have c34b0 : decide (0 ≤ t258) = true := decide_eq_true c34
                                    clear c34
                                    by_cases c35 : t258 < (x12_3.length : Int)
                                    · rw [if_pos c35] at H
                                      have c35b0 : decide (t258 < (x12_3.length : Int)) = true := decide_eq_true c35
                                      clear c35
                                      obtain ⟨bq36, hbq36⟩ : ∃ b_ : Bool, b_ = (rdOf false x12_3 t258) := ⟨_, rfl⟩
                                      replace H : (if bq36 = true then (some false) else (if x60_3 > 0 then (if 0 ≤ (wrap64 (x60_3 - 1)) then (if (wrap64 (x60_3 - 1)) < (t243.length : Int) then ((laws_tFar.f k3 (rd_L1 t243 x60_3) (rd_L1 t243 (wrap64 (x60_3 - 1)))).bind fun t262 => (if t262 = 1 then (laws_FnGrayGrowths.l0 k3 t243 (x12_3.set (t258 : Int).toNat true) t243 (t243.length : Int) (wrap64 (x60_3 + 1))) else (some false))) else (none)) else (none)) else (laws_FnGrayGrowths.l0 k3 t243 (x12_3.set (t258 : Int).toNat true) t243 (t243.length : Int) (wrap64 (x60_3 + 1))))) = some r := by rw [← hbq36] at H; exact H
                                      have Nbq36 := Aside0.mk hbq36
                                      clear hbq36
                                      by_cases c37 : bq36 = true
                                      · subst c37
                                        have H1 : (some false) = some r := by rw [if_pos rfl] at H; exact H
                                        clear H
                                        have H := H1
                                        clear H1
                                        obtain rfl := Option.some.inj H
                                        have p257 : 0 ≤ (x60_3 : Int) := of_decide_eq_true (by first | (with_reducible assumption) | assumption)
                                        have q257 : x60_3 < (t243.length : Int) := of_decide_eq_true (by first | (with_reducible assumption) | assumption)
                                        obtain ⟨ad257, A257_0, c257_0, e257, hx257_0, hl257_0, hi257_0⟩ := at_L1 (Kd.S_reads' HO_58.out).2.2 x60_3 p257 q257
                                        cases e257
                                        obtain ⟨ce257, hce257, hMe257, hcc257⟩ := Kd.S_get HO_58.out [] x60_3 p257 (by first | exact q257 | exact of_decide_eq_true (by first | (with_reducible assumption) | assumption) | (have e_ := (Kd.S_reads' HO_58.out).1; omega))
                                        obtain ⟨ve257_0, rfl, ge257_0⟩ := hMe257
                                        have hv257_0 := hcc257 0 _ rfl
                                        rw [Nat.add_zero, show ((Kd.slice 3 (Kd.int .i64))).sz = 1 from rfl, Nat.mul_one] at hv257_0
                                        replace hv257_0 := Option.some.inj (hv257_0.symm.trans hx257_0)
                                        rw [hv257_0] at ge257_0
                                        have HL257_0 := Aside0.mk (show Kd.R (Kd.int .i64) 3 _ _ _ _ (rd_L1 t243 x60_3) from ge257_0)
                                        clear hv257_0 ge257_0
                                        clear hcc257 hce257
                                        have HR257_0 := Aside0.mk hi257_0
                                        have HC257_0 := Aside0.mk hl257_0
                                        clear hi257_0 hl257_0
                                        replace p257 := eq_true p257
                                        replace q257 := eq_true q257
                                        go_wp2_with (first | ((with_reducible refine gate_callee (f := 39) rfl ?_); refine goesL_ (some 67) rfl rfl Try.func39 (by kernel_rfl) rfl #[.slice A257_0 (rd_L1 t243 x60_3).length c257_0] rfl (by (try simp only [List.map_toArray, List.map_cons, List.map_nil]); first | done | rfl | (simp only [List.length_drop, List.length_take]; rfl)) ?_; (with_reducible refine (impl_RankGrowth.calls k3 _ _ (rd_L1 t243 x60_3) t258 true _ ?side1 ?side2 A32.out).mono ?_); (case side1 => repeat (first | exact (by repeat (first | (with_reducible exact HR257_0.out) | (with_reducible refine Kd.C_alloc ?_ _) | (with_reducible refine Kd.C_drewN ?_ _) | (with_reducible refine Kd.C_drew ?_) | exact HR257_0.out)) | (with_reducible refine Kd.C_alloc ?_ _) | (with_reducible refine Kd.C_drewN ?_ _) | (with_reducible refine Kd.C_drew ?_))); (case side2 => exact HC257_0.out); rintro e w38 ⟨rfl, hb⟩; refine ⟨_, rfl, ?_⟩; have n0_ := Aside0.mk (Kd.S_below (by (with_reducible repeat (first | apply Kd.S_alloc | apply Kd.S_drewN | apply Kd.S_drew)); (first | exact HO_6.out | (have hz_ := HO_6.out; (try simp only [ob_] at hz_); (try simp only [ob_]); exact hz_))) hb); have n1_ := Aside0.mk (Kd.R_below (by (with_reducible repeat (first | apply Kd.R_alloc | apply Kd.R_drewN | apply Kd.R_drew)); (first | exact HO_12.out | (have hz_ := HO_12.out; (try simp only [ob_] at hz_); (try simp only [ob_]); exact hz_))) hb); have n2_ := Aside0.mk (Kd.S_below (by (with_reducible repeat (first | apply Kd.S_alloc | apply Kd.S_drewN | apply Kd.S_drew)); (first | exact HO_58.out | (have hz_ := HO_58.out; (try simp only [ob_] at hz_); (try simp only [ob_]); exact hz_))) hb); have n3_ := Aside0.mk (Kd.R_below (by (with_reducible repeat (first | apply Kd.R_alloc | apply Kd.R_drewN | apply Kd.R_drew)); exact HL257_0.out) hb); have n4_ := Aside0.mk (Kd.C_below (by repeat (first | (with_reducible exact HR257_0.out) | (with_reducible refine Kd.C_alloc ?_ _) | (with_reducible refine Kd.C_drewN ?_ _) | (with_reducible refine Kd.C_drew ?_) | exact HR257_0.out)) hb); have n5_ := Aside0.mk (below_step (by repeat (first | (with_reducible first | exact HB.out | apply below_alloc | apply pw_below_drewN | apply below_drew1) | exact HB.out)) hb); clear HO_6; clear HO_12; clear HO_58; clear HL257_0; clear HR257_0; clear HB; have HO_6 := n0_; have HO_12 := n1_; have HO_58 := n2_; have HL257_0 := n3_; have HR257_0 := n4_; have HB := n5_; clear n0_ n1_ n2_ n3_ n4_ n5_; (try clear hb); (try clear hb2); (try clear hk); (try clear hi); obtain ⟨Ao39, co39, eo39⟩ := Kd.R_slice HO_12.out; subst eo39; have p260 : 0 ≤ (t258 : Int) := of_decide_eq_true (by first | (with_reducible assumption) | assumption); have q260 : t258 < (x12_3.length : Int) := of_decide_eq_true (by first | (with_reducible assumption) | assumption); obtain ⟨ad260, e260, hx260_0⟩ := Kd.at_bool (Kd.R_reads' HO_12.out).2.2 t258 p260 q260; (try rw [← Nbq36.out] at hx260_0); cases e260; replace p260 := eq_true p260; replace q260 := eq_true q260))
                                        go_ret
                                        exact ⟨by first | rfl | (simp [errW_none, errW_some] <;> rfl) | (simp [*, errW_none, errW_some] <;> rfl), by repeat (first | (with_reducible first | exact HB.out | apply below_alloc | apply pw_below_drewN | apply below_drew1) | exact HB.out)⟩
                                      · replace c37 := Bool.eq_false_iff.mpr c37
                                        subst c37
                                        have H1 : (if x60_3 > 0 then (if 0 ≤ (wrap64 (x60_3 - 1)) then (if (wrap64 (x60_3 - 1)) < (t243.length : Int) then ((laws_tFar.f k3 (rd_L1 t243 x60_3) (rd_L1 t243 (wrap64 (x60_3 - 1)))).bind fun t262 => (if t262 = 1 then (laws_FnGrayGrowths.l0 k3 t243 (x12_3.set (t258 : Int).toNat true) t243 (t243.length : Int) (wrap64 (x60_3 + 1))) else (some false))) else (none)) else (none)) else (laws_FnGrayGrowths.l0 k3 t243 (x12_3.set (t258 : Int).toNat true) t243 (t243.length : Int) (wrap64 (x60_3 + 1)))) = some r := by rw [if_neg (show ¬ (false = true) by decide)] at H; exact H
                                        clear H
                                        have H := H1
                                        clear H1
                                        by_cases c40 : x60_3 > 0
                                        · rw [if_pos c40] at H
                                          have c40b0 : decide (0 < x60_3) = true := decide_eq_true c40
                                          clear c40
                                          obtain ⟨ji41, hji41⟩ : ∃ j_ : Int, (wrap64 (x60_3 - 1)) = j_ := ⟨_, rfl⟩
                                          replace H : (if 0 ≤ (ji41) then (if (ji41) < (t243.length : Int) then ((laws_tFar.f k3 (rd_L1 t243 x60_3) (rd_L1 t243 (ji41))).bind fun t262 => (if t262 = 1 then (laws_FnGrayGrowths.l0 k3 t243 (x12_3.set (t258 : Int).toNat true) t243 (t243.length : Int) (wrap64 (x60_3 + 1))) else (some false))) else (none)) else (none)) = some r := by first | (rw [hji41] at H; exact H) | (simp only [hji41] at H ⊢; exact H)
                                          (try rw [hji41] at A32)
                                          have hji41w : (IntKind.i64.wrap (x60_3 - 1)) = ji41 := (i64_w _).trans hji41
                                          by_cases c42 : 0 ≤ (ji41)
                                          · rw [if_pos c42] at H
                                            have c42b0 : decide (0 ≤ (ji41)) = true := decide_eq_true c42
                                            clear c42
                                            by_cases c43 : (ji41) < (t243.length : Int)
                                            · rw [if_pos c43] at H
                                              have c43b0 : decide ((ji41) < (t243.length : Int)) = true := decide_eq_true c43
                                              clear c43
                                              replace H := Option.bind_eq_some_iff.mp H
                                              obtain ⟨t262, A440, H⟩ := H
                                              replace H : (if t262 = 1 then (laws_FnGrayGrowths.l0 k3 t243 (x12_3.set (t258 : Int).toNat true) t243 (t243.length : Int) (wrap64 (x60_3 + 1))) else (some false)) = some r := H
                                              have A44 := Aside0.mk A440
                                              clear A440
                                              by_cases c45 : t262 = 1
                                              · rw [if_pos c45] at H
                                                have c45b0 : (t262 == 1) = true := beq_iff_eq.mpr c45
                                                have c45b1 : (t262 != 1) = false := bne_eq_false_iff_eq.mpr c45
                                                clear c45
                                                obtain ⟨y263, hy263⟩ : ∃ y_ : List Bool, y_ = (x12_3.set (t258 : Int).toNat true) := ⟨_, rfl⟩
                                                replace H : (laws_FnGrayGrowths.l0 k3 t243 y263 t243 (t243.length : Int) (wrap64 (x60_3 + 1))) = some r := by first | (rw [hy263]; with_reducible exact H) | (have H2_ := (Option.bind_some _ _).symm.trans H; rw [hy263]; with_reducible exact H2_) | (have H2_ := (Option.bind_some _ _).symm.trans H; with_reducible exact H2_) | with_reducible exact H | (rw [hy263]; exact H) | exact H
                                                have Ny263 := Aside0.mk hy263
                                                clear hy263
                                                have H' := Aside0.mk H
                                                clear H
                                                have p257 : 0 ≤ (x60_3 : Int) := of_decide_eq_true (by first | (with_reducible assumption) | assumption)
                                                have q257 : x60_3 < (t243.length : Int) := of_decide_eq_true (by first | (with_reducible assumption) | assumption)
                                                obtain ⟨ad257, A257_0, c257_0, e257, hx257_0, hl257_0, hi257_0⟩ := at_L1 (Kd.S_reads' HO_58.out).2.2 x60_3 p257 q257
                                                cases e257
                                                obtain ⟨ce257, hce257, hMe257, hcc257⟩ := Kd.S_get HO_58.out [] x60_3 p257 (by first | exact q257 | exact of_decide_eq_true (by first | (with_reducible assumption) | assumption) | (have e_ := (Kd.S_reads' HO_58.out).1; omega))
                                                obtain ⟨ve257_0, rfl, ge257_0⟩ := hMe257
                                                have hv257_0 := hcc257 0 _ rfl
                                                rw [Nat.add_zero, show ((Kd.slice 3 (Kd.int .i64))).sz = 1 from rfl, Nat.mul_one] at hv257_0
                                                replace hv257_0 := Option.some.inj (hv257_0.symm.trans hx257_0)
                                                rw [hv257_0] at ge257_0
                                                have HL257_0 := Aside0.mk (show Kd.R (Kd.int .i64) 3 _ _ _ _ (rd_L1 t243 x60_3) from ge257_0)
                                                clear hv257_0 ge257_0
                                                clear hcc257 hce257
                                                have HR257_0 := Aside0.mk hi257_0
                                                have HC257_0 := Aside0.mk hl257_0
                                                clear hi257_0 hl257_0
                                                replace p257 := eq_true p257
                                                replace q257 := eq_true q257
                                                go_wp2_with (first | ((with_reducible refine gate_callee (f := 39) rfl ?_); refine goesL_ (some 67) rfl rfl Try.func39 (by kernel_rfl) rfl #[.slice A257_0 (rd_L1 t243 x60_3).length c257_0] rfl (by (try simp only [List.map_toArray, List.map_cons, List.map_nil]); first | done | rfl | (simp only [List.length_drop, List.length_take]; rfl)) ?_; (with_reducible refine (impl_RankGrowth.calls k3 _ _ (rd_L1 t243 x60_3) t258 true _ ?side1 ?side2 A32.out).mono ?_); (case side1 => repeat (first | exact (by repeat (first | (with_reducible exact HR257_0.out) | (with_reducible refine Kd.C_alloc ?_ _) | (with_reducible refine Kd.C_drewN ?_ _) | (with_reducible refine Kd.C_drew ?_) | exact HR257_0.out)) | (with_reducible refine Kd.C_alloc ?_ _) | (with_reducible refine Kd.C_drewN ?_ _) | (with_reducible refine Kd.C_drew ?_))); (case side2 => exact HC257_0.out); rintro e w47 ⟨rfl, hb⟩; refine ⟨_, rfl, ?_⟩; have n0_ := Aside0.mk (Kd.S_below (by (with_reducible repeat (first | apply Kd.S_alloc | apply Kd.S_drewN | apply Kd.S_drew)); (first | exact HO_6.out | (have hz_ := HO_6.out; (try simp only [ob_] at hz_); (try simp only [ob_]); exact hz_))) hb); have n1_ := Aside0.mk (Kd.R_below (by (with_reducible repeat (first | apply Kd.R_alloc | apply Kd.R_drewN | apply Kd.R_drew)); (first | exact HO_12.out | (have hz_ := HO_12.out; (try simp only [ob_] at hz_); (try simp only [ob_]); exact hz_))) hb); have n2_ := Aside0.mk (Kd.S_below (by (with_reducible repeat (first | apply Kd.S_alloc | apply Kd.S_drewN | apply Kd.S_drew)); (first | exact HO_58.out | (have hz_ := HO_58.out; (try simp only [ob_] at hz_); (try simp only [ob_]); exact hz_))) hb); have n3_ := Aside0.mk (Kd.R_below (by (with_reducible repeat (first | apply Kd.R_alloc | apply Kd.R_drewN | apply Kd.R_drew)); exact HL257_0.out) hb); have n4_ := Aside0.mk (Kd.C_below (by repeat (first | (with_reducible exact HR257_0.out) | (with_reducible refine Kd.C_alloc ?_ _) | (with_reducible refine Kd.C_drewN ?_ _) | (with_reducible refine Kd.C_drew ?_) | exact HR257_0.out)) hb); have n5_ := Aside0.mk (below_step (by repeat (first | (with_reducible first | exact HB.out | apply below_alloc | apply pw_below_drewN | apply below_drew1) | exact HB.out)) hb); clear HO_6; clear HO_12; clear HO_58; clear HL257_0; clear HR257_0; clear HB; have HO_6 := n0_; have HO_12 := n1_; have HO_58 := n2_; have HL257_0 := n3_; have HR257_0 := n4_; have HB := n5_; clear n0_ n1_ n2_ n3_ n4_ n5_; (try clear hb); (try clear hb2); (try clear hk); (try clear hi); obtain ⟨Ao48, co48, eo48⟩ := Kd.R_slice HO_12.out; subst eo48; have p260 : 0 ≤ (t258 : Int) := of_decide_eq_true (by first | (with_reducible assumption) | assumption); have q260 : t258 < (x12_3.length : Int) := of_decide_eq_true (by first | (with_reducible assumption) | assumption); obtain ⟨ad260, e260, hx260_0⟩ := Kd.at_bool (Kd.R_reads' HO_12.out).2.2 t258 p260 q260; (try rw [← Nbq36.out] at hx260_0); cases e260; replace p260 := eq_true p260; replace q260 := eq_true q260; have p261 : 0 ≤ ((ji41) : Int) := of_decide_eq_true (by first | (with_reducible assumption) | assumption); have q261 : (ji41) < (t243.length : Int) := of_decide_eq_true (by first | (with_reducible assumption) | assumption); obtain ⟨ad261, A261_0, c261_0, e261, hx261_0, hl261_0, hi261_0⟩ := at_L1 (Kd.S_reads' HO_6.out).2.2 (ji41) p261 q261; obtain rfl : ad257 = ad261 := (by injection e261); obtain ⟨ce261, hce261, hMe261, hcc261⟩ := Kd.S_get HO_6.out [] (ji41) p261 (by first | exact q261 | exact of_decide_eq_true (by first | (with_reducible assumption) | assumption) | (have e_ := (Kd.S_reads' HO_6.out).1; omega)); obtain ⟨ve261_0, rfl, ge261_0⟩ := hMe261; have hv261_0 := hcc261 0 _ rfl; rw [Nat.add_zero, show ((Kd.slice 3 (Kd.int .i64))).sz = 1 from rfl, Nat.mul_one] at hv261_0; replace hv261_0 := Option.some.inj (hv261_0.symm.trans hx261_0); rw [hv261_0] at ge261_0; have HL261_0 := Aside0.mk (show Kd.R (Kd.int .i64) 3 _ _ _ _ (rd_L1 t243 (ji41)) from ge261_0); clear hv261_0 ge261_0; clear hcc261 hce261; have HR261_0 := Aside0.mk hi261_0; have HC261_0 := Aside0.mk hl261_0; clear hi261_0 hl261_0; replace p261 := eq_true p261; replace q261 := eq_true q261) | (go_at_call 48; (with_reducible refine (laws_tFar.calls k3 _ _ (rd_L1 t243 x60_3) _ _ (rd_L1 t243 (ji41)) t262 _ ?side1 ?side2 ?side3 ?side4 A44.out).mono ?_); (case side1 => repeat (first | exact (by repeat (first | (with_reducible exact HR257_0.out) | (with_reducible refine Kd.C_alloc ?_ _) | (with_reducible refine Kd.C_drewN ?_ _) | (with_reducible refine Kd.C_drew ?_) | exact HR257_0.out)) | (with_reducible refine Kd.C_alloc ?_ _) | (with_reducible refine Kd.C_drewN ?_ _) | (with_reducible refine Kd.C_drew ?_))); (case side2 => exact HC257_0.out); (case side3 => repeat (first | exact (by repeat (first | (with_reducible exact HR261_0.out) | (with_reducible refine Kd.C_alloc ?_ _) | (with_reducible refine Kd.C_drewN ?_ _) | (with_reducible refine Kd.C_drew ?_) | exact HR261_0.out)) | (with_reducible refine Kd.C_alloc ?_ _) | (with_reducible refine Kd.C_drewN ?_ _) | (with_reducible refine Kd.C_drew ?_))); (case side4 => exact HC261_0.out); rintro e w' ⟨rfl, ⟨nd, rfl⟩⟩; (try (rw [drewN_self w47]; generalize hq_ : World.drewN w47 _ = w47; have n0_ : Aside0 (Kd.R (Kd.int .i64) 3 w47 w.heap.size (fun k_ => some k_ ≠ (.slice (some ad257) t243.length co28 : Value).ownBlock) (.slice A257_0 (rd_L1 t243 x60_3).length c257_0) (rd_L1 t243 x60_3)) := ⟨by rw [← hq_]; exact (by (with_reducible repeat (first | apply Kd.R_alloc | apply Kd.R_drewN | apply Kd.R_drew)); exact Kd.R_mono HL257_0.out (fun _ hk => hk.2))⟩; have n1_ : Aside0 (Kd.R (Kd.int .i64) 3 w47 w.heap.size (fun k_ => some k_ ≠ (.slice (some ad257) t243.length co28 : Value).ownBlock) (.slice A261_0 (rd_L1 t243 (ji41)).length c261_0) (rd_L1 t243 (ji41))) := ⟨by rw [← hq_]; exact (by (with_reducible repeat (first | apply Kd.R_alloc | apply Kd.R_drewN | apply Kd.R_drew)); exact Kd.R_mono HL261_0.out (fun _ hk => hk.2))⟩; have n2_ : Aside0 (Kd.R Kd.bool 4 w47 w.heap.size (fun _ => True) (.slice (some ad260) x12_3.length co48) x12_3) := ⟨by rw [← hq_]; exact (by (with_reducible repeat (first | apply Kd.R_alloc | apply Kd.R_drewN | apply Kd.R_drew)); (first | exact HO_12.out | (have hz_ := HO_12.out; (try simp only [ob_] at hz_); (try simp only [ob_]); exact hz_)))⟩; have n3_ : Aside0 (Kd.S (Kd.slice 3 (Kd.int .i64)) 22 w47 w.heap.size (fun _ => True) (.slice (some ad257) t243.length co28) t243) := ⟨by rw [← hq_]; exact (by (with_reducible repeat (first | apply Kd.S_alloc | apply Kd.S_drewN | apply Kd.S_drew)); (first | exact HO_58.out | (have hz_ := HO_58.out; (try simp only [ob_] at hz_); (try simp only [ob_]); exact hz_)))⟩; have n4_ : Aside0 (Kd.S (Kd.slice 3 (Kd.int .i64)) 22 w47 w.heap.size (fun _ => True) (.slice (some ad257) t243.length co28) t243) := ⟨by rw [← hq_]; exact (by (with_reducible repeat (first | apply Kd.S_alloc | apply Kd.S_drewN | apply Kd.S_drew)); (first | exact HO_6.out | (have hz_ := HO_6.out; (try simp only [ob_] at hz_); (try simp only [ob_]); exact hz_)))⟩; have n5_ : Aside0 (Below w.heap.size w w47) := ⟨by rw [← hq_]; exact (by repeat (first | (with_reducible first | exact HB.out | apply below_alloc | apply pw_below_drewN | apply below_drew1) | exact HB.out))⟩; have n6_ : Aside0 (Kd.C (Kd.int .i64) w47 A257_0 (rd_L1 t243 x60_3).length (rd_L1 t243 x60_3)) := ⟨by rw [← hq_]; exact (by repeat (first | (with_reducible exact HR257_0.out) | (with_reducible refine Kd.C_alloc ?_ _) | (with_reducible refine Kd.C_drewN ?_ _) | (with_reducible refine Kd.C_drew ?_) | exact HR257_0.out))⟩; have n7_ : Aside0 (Kd.C (Kd.int .i64) w47 A261_0 (rd_L1 t243 (ji41)).length (rd_L1 t243 (ji41))) := ⟨by rw [← hq_]; exact (by repeat (first | (with_reducible exact HR261_0.out) | (with_reducible refine Kd.C_alloc ?_ _) | (with_reducible refine Kd.C_drewN ?_ _) | (with_reducible refine Kd.C_drew ?_) | exact HR261_0.out))⟩; clear HL257_0 HL261_0 HO_12 HO_58 HO_6 HB HR257_0 HR261_0 hq_; have HL257_0 := n0_; have HL261_0 := n1_; have HO_12 := n2_; have HO_58 := n3_; have HO_6 := n4_; have HB := n5_; have HR257_0 := n6_; have HR261_0 := n7_; clear n0_ n1_ n2_ n3_ n4_ n5_ n6_ n7_)); have p46 : 0 ≤ (t258 : Int) := of_decide_eq_true (by first | (with_reducible assumption) | assumption); have q46 : (t258 : Int) < ((x12_3.length : Int) : Int) := of_decide_eq_true (by first | (with_reducible assumption) | assumption); obtain ⟨go46, co46, eo46, gb46, gl46, cl46, HG46⟩ := Kd.R_form HO_12.out (by omega); (first | cases eo46 | (injection eo46 with ea_ en_ ec_; (first | subst ea_ | (injection ea_ with ea_; subst ea_)); subst ec_; clear en_)); have GB46 := Aside0.mk gb46; have GG46 := Aside0.mk HG46; clear gb46 gl46 HG46; (first | simp only [add_plain] at hx260_0 | skip); obtain ⟨hx46_0, hf46_0⟩ := Kd.R_celln false HO_12.out (t258 : Int) p46 q46; replace p46 := eq_true p46; replace q46 := eq_true q46; obtain ⟨hy49_, hz49_⟩ := Kd.R_celln false HO_12.out (t258 : Int) (of_decide_eq_true (by first | (with_reducible assumption) | assumption)) (of_decide_eq_true (by first | (with_reducible assumption) | assumption)); have HP49 := Kd.R_putg HO_12.out (t258 : Int) true) | ((with_reducible refine gate_store (t := 4) (p := 94) rfl ?_); refine store_event (t := 4) (p := 94) (v := ?vo_w50) (w1 := (w47.setCell ⟨go46, (t258 : Int).toNat, none⟩ (.bool true))) ?hg ?ho ?hn ?hr ?_; (case ho => rfl); (case hg => rfl); (case hn => rfl); (case hr => first | (go_simp; done) | (go_simp; rfl)); intro w50 hw; have hg : w47.grownBy w50 (some go46) := (by rw [hw]; exact HP49.2); have hp_ : Kd.R Kd.bool 4 w50 w.heap.size (fun _ => True) (.slice (some ⟨go46, 0, none⟩) x12_3.length co48) y263 := (by rw [hw, Ny263.out]; exact HP49.1); clear HP49; have n0_ := Aside0.mk (Kd.S_over' (v := (.slice (some ⟨go46, 0, none⟩) x12_3.length co48)) (by (with_reducible repeat (first | apply Kd.S_alloc | apply Kd.S_drewN | apply Kd.S_drew)); (first | exact HO_6.out | (have hz_ := HO_6.out; (try simp only [ob_] at hz_); (try simp only [ob_]); exact hz_))) (Kd.R_typed HO_12.out) (by decide) hg); have n1_ := Aside0.mk (hp_); have n2_ := Aside0.mk (Kd.S_over' (v := (.slice (some ⟨go46, 0, none⟩) x12_3.length co48)) (by (with_reducible repeat (first | apply Kd.S_alloc | apply Kd.S_drewN | apply Kd.S_drew)); (first | exact HO_58.out | (have hz_ := HO_58.out; (try simp only [ob_] at hz_); (try simp only [ob_]); exact hz_))) (Kd.R_typed HO_12.out) (by decide) hg); have n3_ := Aside0.mk (Kd.R_over' (v := (.slice (some ⟨go46, 0, none⟩) x12_3.length co48)) (by (with_reducible repeat (first | apply Kd.R_alloc | apply Kd.R_drewN | apply Kd.R_drew)); exact HL257_0.out) (Kd.R_typed HO_12.out) (by decide) hg); have n4_ := Aside0.mk (Kd.R_over' (v := (.slice (some ⟨go46, 0, none⟩) x12_3.length co48)) (by (with_reducible repeat (first | apply Kd.R_alloc | apply Kd.R_drewN | apply Kd.R_drew)); exact HL261_0.out) (Kd.R_typed HO_12.out) (by decide) hg); have n5_ := Aside0.mk ((by rw [hw]; exact below_set (HB.out) GB46.out : Below w.heap.size w w50)); clear HO_6; clear HO_12; clear HO_58; clear HL257_0; clear HL261_0; clear HB; have HO_6 := n0_; have HO_12 := n1_; have HO_58 := n2_; have HL257_0 := n3_; have HL261_0 := n4_; have HB := n5_; clear n0_ n1_ n2_ n3_ n4_ n5_; clear hg hw hp_))
                                                go_roundg k3
                                                case measure => have := HJ7.out; have := HJ18.out; have := HK3.out; omega
                                                case rel => exact ⟨(y263), (wrap64 (x60_3 + 1)), (by first | rfl | (simp; done) | (simp [*]; done)), H', ⟨by have := HJ7.out; have := HJ18.out; have := HK3.out; omega⟩, ⟨by (with_reducible repeat (first | apply Kd.S_alloc | apply Kd.S_drewN | apply Kd.S_drew)); (first | exact HO_6.out | (have hz_ := HO_6.out; (try simp only [ob_] at hz_); (try simp only [ob_]); exact hz_))⟩, ⟨by (with_reducible repeat (first | apply Kd.R_alloc | apply Kd.R_drewN | apply Kd.R_drew)); (first | exact HO_12.out | (have hz_ := HO_12.out; (try simp only [ob_] at hz_); (try simp only [ob_]); exact hz_))⟩, ⟨by (with_reducible repeat (first | apply Kd.S_alloc | apply Kd.S_drewN | apply Kd.S_drew)); (first | exact HO_58.out | (have hz_ := HO_58.out; (try simp only [ob_] at hz_); (try simp only [ob_]); exact hz_))⟩, ⟨by repeat (first | (with_reducible first | exact HB.out | apply below_alloc | apply pw_below_drewN | apply below_drew1) | exact HB.out)⟩⟩
                                              · rw [if_neg c45] at H
                                                have c45b0 : (t262 == 1) = false := beq_eq_false_iff_ne.mpr c45
                                                have c45b1 : (t262 != 1) = true := bne_iff_ne.mpr c45
                                                obtain rfl := Option.some.inj H
                                                have p257 : 0 ≤ (x60_3 : Int) := of_decide_eq_true (by first | (with_reducible assumption) | assumption)
                                                have q257 : x60_3 < (t243.length : Int) := of_decide_eq_true (by first | (with_reducible assumption) | assumption)
                                                obtain ⟨ad257, A257_0, c257_0, e257, hx257_0, hl257_0, hi257_0⟩ := at_L1 (Kd.S_reads' HO_58.out).2.2 x60_3 p257 q257
                                                cases e257
                                                obtain ⟨ce257, hce257, hMe257, hcc257⟩ := Kd.S_get HO_58.out [] x60_3 p257 (by first | exact q257 | exact of_decide_eq_true (by first | (with_reducible assumption) | assumption) | (have e_ := (Kd.S_reads' HO_58.out).1; omega))
                                                obtain ⟨ve257_0, rfl, ge257_0⟩ := hMe257
                                                have hv257_0 := hcc257 0 _ rfl
                                                rw [Nat.add_zero, show ((Kd.slice 3 (Kd.int .i64))).sz = 1 from rfl, Nat.mul_one] at hv257_0
                                                replace hv257_0 := Option.some.inj (hv257_0.symm.trans hx257_0)
                                                rw [hv257_0] at ge257_0
                                                have HL257_0 := Aside0.mk (show Kd.R (Kd.int .i64) 3 _ _ _ _ (rd_L1 t243 x60_3) from ge257_0)
                                                clear hv257_0 ge257_0
                                                clear hcc257 hce257
                                                have HR257_0 := Aside0.mk hi257_0
                                                have HC257_0 := Aside0.mk hl257_0
                                                clear hi257_0 hl257_0
                                                replace p257 := eq_true p257
                                                replace q257 := eq_true q257
                                                go_wp2_with (first | ((with_reducible refine gate_callee (f := 39) rfl ?_); refine goesL_ (some 67) rfl rfl Try.func39 (by kernel_rfl) rfl #[.slice A257_0 (rd_L1 t243 x60_3).length c257_0] rfl (by (try simp only [List.map_toArray, List.map_cons, List.map_nil]); first | done | rfl | (simp only [List.length_drop, List.length_take]; rfl)) ?_; (with_reducible refine (impl_RankGrowth.calls k3 _ _ (rd_L1 t243 x60_3) t258 true _ ?side1 ?side2 A32.out).mono ?_); (case side1 => repeat (first | exact (by repeat (first | (with_reducible exact HR257_0.out) | (with_reducible refine Kd.C_alloc ?_ _) | (with_reducible refine Kd.C_drewN ?_ _) | (with_reducible refine Kd.C_drew ?_) | exact HR257_0.out)) | (with_reducible refine Kd.C_alloc ?_ _) | (with_reducible refine Kd.C_drewN ?_ _) | (with_reducible refine Kd.C_drew ?_))); (case side2 => exact HC257_0.out); rintro e w51 ⟨rfl, hb⟩; refine ⟨_, rfl, ?_⟩; have n0_ := Aside0.mk (Kd.S_below (by (with_reducible repeat (first | apply Kd.S_alloc | apply Kd.S_drewN | apply Kd.S_drew)); (first | exact HO_6.out | (have hz_ := HO_6.out; (try simp only [ob_] at hz_); (try simp only [ob_]); exact hz_))) hb); have n1_ := Aside0.mk (Kd.R_below (by (with_reducible repeat (first | apply Kd.R_alloc | apply Kd.R_drewN | apply Kd.R_drew)); (first | exact HO_12.out | (have hz_ := HO_12.out; (try simp only [ob_] at hz_); (try simp only [ob_]); exact hz_))) hb); have n2_ := Aside0.mk (Kd.S_below (by (with_reducible repeat (first | apply Kd.S_alloc | apply Kd.S_drewN | apply Kd.S_drew)); (first | exact HO_58.out | (have hz_ := HO_58.out; (try simp only [ob_] at hz_); (try simp only [ob_]); exact hz_))) hb); have n3_ := Aside0.mk (Kd.R_below (by (with_reducible repeat (first | apply Kd.R_alloc | apply Kd.R_drewN | apply Kd.R_drew)); exact HL257_0.out) hb); have n4_ := Aside0.mk (Kd.C_below (by repeat (first | (with_reducible exact HR257_0.out) | (with_reducible refine Kd.C_alloc ?_ _) | (with_reducible refine Kd.C_drewN ?_ _) | (with_reducible refine Kd.C_drew ?_) | exact HR257_0.out)) hb); have n5_ := Aside0.mk (below_step (by repeat (first | (with_reducible first | exact HB.out | apply below_alloc | apply pw_below_drewN | apply below_drew1) | exact HB.out)) hb); clear HO_6; clear HO_12; clear HO_58; clear HL257_0; clear HR257_0; clear HB; have HO_6 := n0_; have HO_12 := n1_; have HO_58 := n2_; have HL257_0 := n3_; have HR257_0 := n4_; have HB := n5_; clear n0_ n1_ n2_ n3_ n4_ n5_; (try clear hb); (try clear hb2); (try clear hk); (try clear hi); obtain ⟨Ao52, co52, eo52⟩ := Kd.R_slice HO_12.out; subst eo52; have p260 : 0 ≤ (t258 : Int) := of_decide_eq_true (by first | (with_reducible assumption) | assumption); have q260 : t258 < (x12_3.length : Int) := of_decide_eq_true (by first | (with_reducible assumption) | assumption); obtain ⟨ad260, e260, hx260_0⟩ := Kd.at_bool (Kd.R_reads' HO_12.out).2.2 t258 p260 q260; (try rw [← Nbq36.out] at hx260_0); cases e260; replace p260 := eq_true p260; replace q260 := eq_true q260; have p261 : 0 ≤ ((ji41) : Int) := of_decide_eq_true (by first | (with_reducible assumption) | assumption); have q261 : (ji41) < (t243.length : Int) := of_decide_eq_true (by first | (with_reducible assumption) | assumption); obtain ⟨ad261, A261_0, c261_0, e261, hx261_0, hl261_0, hi261_0⟩ := at_L1 (Kd.S_reads' HO_6.out).2.2 (ji41) p261 q261; obtain rfl : ad257 = ad261 := (by injection e261); obtain ⟨ce261, hce261, hMe261, hcc261⟩ := Kd.S_get HO_6.out [] (ji41) p261 (by first | exact q261 | exact of_decide_eq_true (by first | (with_reducible assumption) | assumption) | (have e_ := (Kd.S_reads' HO_6.out).1; omega)); obtain ⟨ve261_0, rfl, ge261_0⟩ := hMe261; have hv261_0 := hcc261 0 _ rfl; rw [Nat.add_zero, show ((Kd.slice 3 (Kd.int .i64))).sz = 1 from rfl, Nat.mul_one] at hv261_0; replace hv261_0 := Option.some.inj (hv261_0.symm.trans hx261_0); rw [hv261_0] at ge261_0; have HL261_0 := Aside0.mk (show Kd.R (Kd.int .i64) 3 _ _ _ _ (rd_L1 t243 (ji41)) from ge261_0); clear hv261_0 ge261_0; clear hcc261 hce261; have HR261_0 := Aside0.mk hi261_0; have HC261_0 := Aside0.mk hl261_0; clear hi261_0 hl261_0; replace p261 := eq_true p261; replace q261 := eq_true q261) | (go_at_call 48; (with_reducible refine (laws_tFar.calls k3 _ _ (rd_L1 t243 x60_3) _ _ (rd_L1 t243 (ji41)) t262 _ ?side1 ?side2 ?side3 ?side4 A44.out).mono ?_); (case side1 => repeat (first | exact (by repeat (first | (with_reducible exact HR257_0.out) | (with_reducible refine Kd.C_alloc ?_ _) | (with_reducible refine Kd.C_drewN ?_ _) | (with_reducible refine Kd.C_drew ?_) | exact HR257_0.out)) | (with_reducible refine Kd.C_alloc ?_ _) | (with_reducible refine Kd.C_drewN ?_ _) | (with_reducible refine Kd.C_drew ?_))); (case side2 => exact HC257_0.out); (case side3 => repeat (first | exact (by repeat (first | (with_reducible exact HR261_0.out) | (with_reducible refine Kd.C_alloc ?_ _) | (with_reducible refine Kd.C_drewN ?_ _) | (with_reducible refine Kd.C_drew ?_) | exact HR261_0.out)) | (with_reducible refine Kd.C_alloc ?_ _) | (with_reducible refine Kd.C_drewN ?_ _) | (with_reducible refine Kd.C_drew ?_))); (case side4 => exact HC261_0.out); rintro e w' ⟨rfl, ⟨nd, rfl⟩⟩))
                                                go_ret
                                                exact ⟨by first | rfl | (simp [errW_none, errW_some] <;> rfl) | (simp only [← hji41]; first | rfl | (simp [errW_none, errW_some] <;> rfl)) | (simp [*, errW_none, errW_some] <;> rfl), by repeat (first | (with_reducible first | exact HB.out | apply below_alloc | apply pw_below_drewN | apply below_drew1) | exact HB.out)⟩
                                            · rw [if_neg c43] at H
                                              exact absurd H (by simp)
                                          · rw [if_neg c42] at H
                                            exact absurd H (by simp)
                                        · rw [if_neg c40] at H
                                          have c40b0 : decide (0 < x60_3) = false := decide_eq_false c40
                                          clear c40
                                          obtain ⟨y264, hy264⟩ : ∃ y_ : List Bool, y_ = (x12_3.set (t258 : Int).toNat true) := ⟨_, rfl⟩
                                          replace H : (laws_FnGrayGrowths.l0 k3 t243 y264 t243 (t243.length : Int) (wrap64 (x60_3 + 1))) = some r := by first | (rw [hy264]; with_reducible exact H) | (have H2_ := (Option.bind_some _ _).symm.trans H; rw [hy264]; with_reducible exact H2_) | (have H2_ := (Option.bind_some _ _).symm.trans H; with_reducible exact H2_) | with_reducible exact H | (rw [hy264]; exact H) | exact H
                                          have Ny264 := Aside0.mk hy264
                                          clear hy264
                                          have H' := Aside0.mk H
                                          clear H
                                          have p257 : 0 ≤ (x60_3 : Int) := of_decide_eq_true (by first | (with_reducible assumption) | assumption)
                                          have q257 : x60_3 < (t243.length : Int) := of_decide_eq_true (by first | (with_reducible assumption) | assumption)
                                          obtain ⟨ad257, A257_0, c257_0, e257, hx257_0, hl257_0, hi257_0⟩ := at_L1 (Kd.S_reads' HO_58.out).2.2 x60_3 p257 q257
                                          cases e257
                                          obtain ⟨ce257, hce257, hMe257, hcc257⟩ := Kd.S_get HO_58.out [] x60_3 p257 (by first | exact q257 | exact of_decide_eq_true (by first | (with_reducible assumption) | assumption) | (have e_ := (Kd.S_reads' HO_58.out).1; omega))
                                          obtain ⟨ve257_0, rfl, ge257_0⟩ := hMe257
                                          have hv257_0 := hcc257 0 _ rfl
                                          rw [Nat.add_zero, show ((Kd.slice 3 (Kd.int .i64))).sz = 1 from rfl, Nat.mul_one] at hv257_0
                                          replace hv257_0 := Option.some.inj (hv257_0.symm.trans hx257_0)
                                          rw [hv257_0] at ge257_0
                                          have HL257_0 := Aside0.mk (show Kd.R (Kd.int .i64) 3 _ _ _ _ (rd_L1 t243 x60_3) from ge257_0)
                                          clear hv257_0 ge257_0
                                          clear hcc257 hce257
                                          have HR257_0 := Aside0.mk hi257_0
                                          have HC257_0 := Aside0.mk hl257_0
                                          clear hi257_0 hl257_0
                                          replace p257 := eq_true p257
                                          replace q257 := eq_true q257
                                          go_wp2_with (first | ((with_reducible refine gate_callee (f := 39) rfl ?_); refine goesL_ (some 67) rfl rfl Try.func39 (by kernel_rfl) rfl #[.slice A257_0 (rd_L1 t243 x60_3).length c257_0] rfl (by (try simp only [List.map_toArray, List.map_cons, List.map_nil]); first | done | rfl | (simp only [List.length_drop, List.length_take]; rfl)) ?_; (with_reducible refine (impl_RankGrowth.calls k3 _ _ (rd_L1 t243 x60_3) t258 true _ ?side1 ?side2 A32.out).mono ?_); (case side1 => repeat (first | exact (by repeat (first | (with_reducible exact HR257_0.out) | (with_reducible refine Kd.C_alloc ?_ _) | (with_reducible refine Kd.C_drewN ?_ _) | (with_reducible refine Kd.C_drew ?_) | exact HR257_0.out)) | (with_reducible refine Kd.C_alloc ?_ _) | (with_reducible refine Kd.C_drewN ?_ _) | (with_reducible refine Kd.C_drew ?_))); (case side2 => exact HC257_0.out); rintro e w54 ⟨rfl, hb⟩; refine ⟨_, rfl, ?_⟩; have n0_ := Aside0.mk (Kd.S_below (by (with_reducible repeat (first | apply Kd.S_alloc | apply Kd.S_drewN | apply Kd.S_drew)); (first | exact HO_6.out | (have hz_ := HO_6.out; (try simp only [ob_] at hz_); (try simp only [ob_]); exact hz_))) hb); have n1_ := Aside0.mk (Kd.R_below (by (with_reducible repeat (first | apply Kd.R_alloc | apply Kd.R_drewN | apply Kd.R_drew)); (first | exact HO_12.out | (have hz_ := HO_12.out; (try simp only [ob_] at hz_); (try simp only [ob_]); exact hz_))) hb); have n2_ := Aside0.mk (Kd.S_below (by (with_reducible repeat (first | apply Kd.S_alloc | apply Kd.S_drewN | apply Kd.S_drew)); (first | exact HO_58.out | (have hz_ := HO_58.out; (try simp only [ob_] at hz_); (try simp only [ob_]); exact hz_))) hb); have n3_ := Aside0.mk (Kd.R_below (by (with_reducible repeat (first | apply Kd.R_alloc | apply Kd.R_drewN | apply Kd.R_drew)); exact HL257_0.out) hb); have n4_ := Aside0.mk (Kd.C_below (by repeat (first | (with_reducible exact HR257_0.out) | (with_reducible refine Kd.C_alloc ?_ _) | (with_reducible refine Kd.C_drewN ?_ _) | (with_reducible refine Kd.C_drew ?_) | exact HR257_0.out)) hb); have n5_ := Aside0.mk (below_step (by repeat (first | (with_reducible first | exact HB.out | apply below_alloc | apply pw_below_drewN | apply below_drew1) | exact HB.out)) hb); clear HO_6; clear HO_12; clear HO_58; clear HL257_0; clear HR257_0; clear HB; have HO_6 := n0_; have HO_12 := n1_; have HO_58 := n2_; have HL257_0 := n3_; have HR257_0 := n4_; have HB := n5_; clear n0_ n1_ n2_ n3_ n4_ n5_; (try clear hb); (try clear hb2); (try clear hk); (try clear hi); obtain ⟨Ao55, co55, eo55⟩ := Kd.R_slice HO_12.out; subst eo55; have p260 : 0 ≤ (t258 : Int) := of_decide_eq_true (by first | (with_reducible assumption) | assumption); have q260 : t258 < (x12_3.length : Int) := of_decide_eq_true (by first | (with_reducible assumption) | assumption); obtain ⟨ad260, e260, hx260_0⟩ := Kd.at_bool (Kd.R_reads' HO_12.out).2.2 t258 p260 q260; (try rw [← Nbq36.out] at hx260_0); cases e260; replace p260 := eq_true p260; replace q260 := eq_true q260; have p53 : 0 ≤ (t258 : Int) := of_decide_eq_true (by first | (with_reducible assumption) | assumption); have q53 : (t258 : Int) < ((x12_3.length : Int) : Int) := of_decide_eq_true (by first | (with_reducible assumption) | assumption); obtain ⟨go53, co53, eo53, gb53, gl53, cl53, HG53⟩ := Kd.R_form HO_12.out (by omega); (first | cases eo53 | (injection eo53 with ea_ en_ ec_; (first | subst ea_ | (injection ea_ with ea_; subst ea_)); subst ec_; clear en_)); have GB53 := Aside0.mk gb53; have GG53 := Aside0.mk HG53; clear gb53 gl53 HG53; (first | simp only [add_plain] at hx260_0 | skip); obtain ⟨hx53_0, hf53_0⟩ := Kd.R_celln false HO_12.out (t258 : Int) p53 q53; replace p53 := eq_true p53; replace q53 := eq_true q53; obtain ⟨hy56_, hz56_⟩ := Kd.R_celln false HO_12.out (t258 : Int) (of_decide_eq_true (by first | (with_reducible assumption) | assumption)) (of_decide_eq_true (by first | (with_reducible assumption) | assumption)); have HP56 := Kd.R_putg HO_12.out (t258 : Int) true) | ((with_reducible refine gate_store (t := 4) (p := 94) rfl ?_); refine store_event (t := 4) (p := 94) (v := ?vo_w57) (w1 := (w54.setCell ⟨go53, (t258 : Int).toNat, none⟩ (.bool true))) ?hg ?ho ?hn ?hr ?_; (case ho => rfl); (case hg => rfl); (case hn => rfl); (case hr => first | (go_simp; done) | (go_simp; rfl)); intro w57 hw; have hg : w54.grownBy w57 (some go53) := (by rw [hw]; exact HP56.2); have hp_ : Kd.R Kd.bool 4 w57 w.heap.size (fun _ => True) (.slice (some ⟨go53, 0, none⟩) x12_3.length co55) y264 := (by rw [hw, Ny264.out]; exact HP56.1); clear HP56; have n0_ := Aside0.mk (Kd.S_over' (v := (.slice (some ⟨go53, 0, none⟩) x12_3.length co55)) (by (with_reducible repeat (first | apply Kd.S_alloc | apply Kd.S_drewN | apply Kd.S_drew)); (first | exact HO_6.out | (have hz_ := HO_6.out; (try simp only [ob_] at hz_); (try simp only [ob_]); exact hz_))) (Kd.R_typed HO_12.out) (by decide) hg); have n1_ := Aside0.mk (hp_); have n2_ := Aside0.mk (Kd.S_over' (v := (.slice (some ⟨go53, 0, none⟩) x12_3.length co55)) (by (with_reducible repeat (first | apply Kd.S_alloc | apply Kd.S_drewN | apply Kd.S_drew)); (first | exact HO_58.out | (have hz_ := HO_58.out; (try simp only [ob_] at hz_); (try simp only [ob_]); exact hz_))) (Kd.R_typed HO_12.out) (by decide) hg); have n3_ := Aside0.mk (Kd.R_over' (v := (.slice (some ⟨go53, 0, none⟩) x12_3.length co55)) (by (with_reducible repeat (first | apply Kd.R_alloc | apply Kd.R_drewN | apply Kd.R_drew)); exact HL257_0.out) (Kd.R_typed HO_12.out) (by decide) hg); have n4_ := Aside0.mk ((by rw [hw]; exact below_set (HB.out) GB53.out : Below w.heap.size w w57)); clear HO_6; clear HO_12; clear HO_58; clear HL257_0; clear HB; have HO_6 := n0_; have HO_12 := n1_; have HO_58 := n2_; have HL257_0 := n3_; have HB := n4_; clear n0_ n1_ n2_ n3_ n4_; clear hg hw hp_))
                                          go_roundg k3
                                          case measure => have := HJ7.out; have := HJ18.out; have := HK3.out; omega
                                          case rel => exact ⟨(y264), (wrap64 (x60_3 + 1)), (by first | rfl | (simp; done) | (simp [*]; done)), H', ⟨by have := HJ7.out; have := HJ18.out; have := HK3.out; omega⟩, ⟨by (with_reducible repeat (first | apply Kd.S_alloc | apply Kd.S_drewN | apply Kd.S_drew)); (first | exact HO_6.out | (have hz_ := HO_6.out; (try simp only [ob_] at hz_); (try simp only [ob_]); exact hz_))⟩, ⟨by (with_reducible repeat (first | apply Kd.R_alloc | apply Kd.R_drewN | apply Kd.R_drew)); (first | exact HO_12.out | (have hz_ := HO_12.out; (try simp only [ob_] at hz_); (try simp only [ob_]); exact hz_))⟩, ⟨by (with_reducible repeat (first | apply Kd.S_alloc | apply Kd.S_drewN | apply Kd.S_drew)); (first | exact HO_58.out | (have hz_ := HO_58.out; (try simp only [ob_] at hz_); (try simp only [ob_]); exact hz_))⟩, ⟨by repeat (first | (with_reducible first | exact HB.out | apply below_alloc | apply pw_below_drewN | apply below_drew1) | exact HB.out)⟩⟩
                                    · rw [if_neg c35] at H
                                      exact absurd H (by simp)
                                  · rw [if_neg c34] at H
                                    exact absurd H (by simp)
                                · replace c33 := Bool.eq_false_iff.mpr c33
                                  subst c33
                                  have H1 : (some false) = some r := by rw [if_neg (show ¬ (false = true) by decide)] at H; exact H
                                  clear H
                                  have H := H1
                                  clear H1
                                  obtain rfl := Option.some.inj H
                                  have p257 : 0 ≤ (x60_3 : Int) := of_decide_eq_true (by first | (with_reducible assumption) | assumption)
                                  have q257 : x60_3 < (t243.length : Int) := of_decide_eq_true (by first | (with_reducible assumption) | assumption)
                                  obtain ⟨ad257, A257_0, c257_0, e257, hx257_0, hl257_0, hi257_0⟩ := at_L1 (Kd.S_reads' HO_58.out).2.2 x60_3 p257 q257
                                  cases e257
                                  obtain ⟨ce257, hce257, hMe257, hcc257⟩ := Kd.S_get HO_58.out [] x60_3 p257 (by first | exact q257 | exact of_decide_eq_true (by first | (with_reducible assumption) | assumption) | (have e_ := (Kd.S_reads' HO_58.out).1; omega))
                                  obtain ⟨ve257_0, rfl, ge257_0⟩ := hMe257
                                  have hv257_0 := hcc257 0 _ rfl
                                  rw [Nat.add_zero, show ((Kd.slice 3 (Kd.int .i64))).sz = 1 from rfl, Nat.mul_one] at hv257_0
                                  replace hv257_0 := Option.some.inj (hv257_0.symm.trans hx257_0)
                                  rw [hv257_0] at ge257_0
                                  have HL257_0 := Aside0.mk (show Kd.R (Kd.int .i64) 3 _ _ _ _ (rd_L1 t243 x60_3) from ge257_0)
                                  clear hv257_0 ge257_0
                                  clear hcc257 hce257
                                  have HR257_0 := Aside0.mk hi257_0
                                  have HC257_0 := Aside0.mk hl257_0
                                  clear hi257_0 hl257_0
                                  replace p257 := eq_true p257
                                  replace q257 := eq_true q257
                                  go_wp2_with (first | ((with_reducible refine gate_callee (f := 39) rfl ?_); refine goesL_ (some 67) rfl rfl Try.func39 (by kernel_rfl) rfl #[.slice A257_0 (rd_L1 t243 x60_3).length c257_0] rfl (by (try simp only [List.map_toArray, List.map_cons, List.map_nil]); first | done | rfl | (simp only [List.length_drop, List.length_take]; rfl)) ?_; (with_reducible refine (impl_RankGrowth.calls k3 _ _ (rd_L1 t243 x60_3) t258 false _ ?side1 ?side2 A32.out).mono ?_); (case side1 => repeat (first | exact (by repeat (first | (with_reducible exact HR257_0.out) | (with_reducible refine Kd.C_alloc ?_ _) | (with_reducible refine Kd.C_drewN ?_ _) | (with_reducible refine Kd.C_drew ?_) | exact HR257_0.out)) | (with_reducible refine Kd.C_alloc ?_ _) | (with_reducible refine Kd.C_drewN ?_ _) | (with_reducible refine Kd.C_drew ?_))); (case side2 => exact HC257_0.out); rintro e w58 ⟨rfl, hb⟩; refine ⟨_, rfl, ?_⟩; have n0_ := Aside0.mk (Kd.S_below (by (with_reducible repeat (first | apply Kd.S_alloc | apply Kd.S_drewN | apply Kd.S_drew)); (first | exact HO_6.out | (have hz_ := HO_6.out; (try simp only [ob_] at hz_); (try simp only [ob_]); exact hz_))) hb); have n1_ := Aside0.mk (Kd.R_below (by (with_reducible repeat (first | apply Kd.R_alloc | apply Kd.R_drewN | apply Kd.R_drew)); (first | exact HO_12.out | (have hz_ := HO_12.out; (try simp only [ob_] at hz_); (try simp only [ob_]); exact hz_))) hb); have n2_ := Aside0.mk (Kd.S_below (by (with_reducible repeat (first | apply Kd.S_alloc | apply Kd.S_drewN | apply Kd.S_drew)); (first | exact HO_58.out | (have hz_ := HO_58.out; (try simp only [ob_] at hz_); (try simp only [ob_]); exact hz_))) hb); have n3_ := Aside0.mk (Kd.R_below (by (with_reducible repeat (first | apply Kd.R_alloc | apply Kd.R_drewN | apply Kd.R_drew)); exact HL257_0.out) hb); have n4_ := Aside0.mk (Kd.C_below (by repeat (first | (with_reducible exact HR257_0.out) | (with_reducible refine Kd.C_alloc ?_ _) | (with_reducible refine Kd.C_drewN ?_ _) | (with_reducible refine Kd.C_drew ?_) | exact HR257_0.out)) hb); have n5_ := Aside0.mk (below_step (by repeat (first | (with_reducible first | exact HB.out | apply below_alloc | apply pw_below_drewN | apply below_drew1) | exact HB.out)) hb); clear HO_6; clear HO_12; clear HO_58; clear HL257_0; clear HR257_0; clear HB; have HO_6 := n0_; have HO_12 := n1_; have HO_58 := n2_; have HL257_0 := n3_; have HR257_0 := n4_; have HB := n5_; clear n0_ n1_ n2_ n3_ n4_ n5_; (try clear hb); (try clear hb2); (try clear hk); (try clear hi)))
                                  go_ret
                                  exact ⟨by first | rfl | (simp [errW_none, errW_some] <;> rfl) | (simp [*, errW_none, errW_some] <;> rfl), by repeat (first | (with_reducible first | exact HB.out | apply below_alloc | apply pw_below_drewN | apply below_drew1) | exact HB.out)⟩
                              · rw [if_neg c31] at H
                                exact absurd H (by simp)
                            · rw [if_neg c30] at H
                              exact absurd H (by simp)
                          · rw [if_neg c29] at H
                            have c29b0 : decide (x60_3 < (t243.length : Int)) = false := decide_eq_false c29
                            clear c29
                            obtain rfl := Option.some.inj H
                            go_wp2
                            go_ret
                            exact ⟨by first | rfl | (simp [errW_none, errW_some] <;> rfl) | (simp [*, errW_none, errW_some] <;> rfl), by repeat (first | (with_reducible first | exact HB.out | apply below_alloc | apply pw_below_drewN | apply below_drew1) | exact HB.out)⟩
                    · rw [if_neg c25] at H
                      exact absurd H (by simp)
                  · rw [if_neg c24] at H
                    exact absurd H (by simp)
          · replace c17 := Bool.eq_false_iff.mpr c17
            subst c17
            have H1 : (some true) = some r := by rw [if_neg (show ¬ (false = true) by decide)] at H; exact H
            clear H
            have H := H1
            clear H1
            obtain rfl := Option.some.inj H
            go_wp2
            go_ret
            exact ⟨by first | rfl | (simp [errW_none, errW_some] <;> rfl) | (simp [*, errW_none, errW_some] <;> rfl), by repeat (first | (with_reducible first | exact HB.out | apply below_alloc | apply pw_below_drewN | apply below_drew1) | exact HB.out)⟩

/-- THE ONE PURE STATEMENT of laws_FnGrayGrowths: yours. -/
def laws_FnGrayGrowths.Pure : Prop := ∀ (l0 : List Int) (l1 : List Int), l0.length ≤ maxLen → l0.length * 1 ≤ 140737488351232 → (∀ x ∈ l0, (Lit.int .u8 x).wf = true) → l1.length ≤ maxLen → l1.length * 1 ≤ 140737488351232 → (∀ x ∈ l1, (Lit.int .u8 x).wf = true) → ∃ k, laws_FnGrayGrowths.f k l0 l1 = some true
theorem laws_FnGrayGrowths.walk (P : laws_FnGrayGrowths.Pure) (a0 : Option Addr) (len0 cap0 : Nat) (z0 : List Int) (a1 : Option Addr) (len1 cap1 : Nat) (z1 : List Int) (w : World) (w0 : (a0 = none ∧ len0 = 0 ∧ cap0 = 0 ∧ z0 = []) ∨ ∃ x, a0 = some x ∧ len0 ≤ cap0 ∧ cap0 ≤ maxLen ∧ z0.length = cap0 ∧ (∀ i, i < z0.length → w.cell? (x.add i) = some (.int .u8 (z0.getD i 0))) ∧ ∀ n ∈ z0, (Lit.int .u8 n).wf = true) (y0 : len0 * 1 ≤ 140737488351232) (w1 : (a1 = none ∧ len1 = 0 ∧ cap1 = 0 ∧ z1 = []) ∨ ∃ x, a1 = some x ∧ len1 ≤ cap1 ∧ cap1 ≤ maxLen ∧ z1.length = cap1 ∧ (∀ i, i < z1.length → w.cell? (x.add i) = some (.int .u8 (z1.getD i 0))) ∧ ∀ n ∈ z1, (Lit.int .u8 n).wf = true) (y1 : len1 * 1 ≤ 140737488351232) :
    Calls Try.prog 11 #[.slice a0 len0 cap0, .slice a1 len1 cap1] w fun e w' => e = .returned (.bool true) ∧ Below w.heap.size w w' := by
  obtain ⟨l0, rfl, hr0, hm0, hw0, hc0⟩ := ReadsInt.ofRowC w0
  obtain ⟨l1, rfl, hr1, hm1, hw1, hc1⟩ := ReadsInt.ofRowC w1
  obtain ⟨k, h⟩ := P l0 l1 hm0 y0 hw0 hm1 y1 hw1
  refine (laws_FnGrayGrowths.calls k _ _ l0 _ _ l1 true w (Kd.C_of_reads (d := (0 : Int)) (h1 := fun _ => rfl) hr0) hc0 (Kd.C_of_reads (d := (0 : Int)) (h1 := fun _ => rfl) hr1) hc1 h).mono ?_
  rintro e w' ⟨rfl, hd⟩
  exact ⟨rfl, hd⟩

end Go.Proofs.Ythaplgbhhppniaa.HFnGrayGrowths
