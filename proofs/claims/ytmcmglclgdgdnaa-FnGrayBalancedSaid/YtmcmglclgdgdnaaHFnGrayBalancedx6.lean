/- Written by this session's program hprint.py out of the loaded functions: what each function computes, and the proof that the machine's call does just that. -/
import Derived.Test.YtmcmglclgdgdnaaHFnGrayBalancedx0
import Derived.Test.YtmcmglclgdgdnaaHFnGrayBalancedx1
import Derived.Test.YtmcmglclgdgdnaaHFnGrayBalancedx2
import Derived.Test.YtmcmglclgdgdnaaHFnGrayBalancedx3
import Derived.Test.YtmcmglclgdgdnaaHFnGrayBalancedx4
import Derived.Test.YtmcmglclgdgdnaaHFnGrayBalancedx5
namespace Go.Proofs.Ytmcmglclgdgdnaa.HFnGrayBalanced
open Go.RowKit Go.Proofs.YtmcmglclgdgdnaaW.PrintWords Go.Proofs.YtmcmglclgdgdnaaW.PrintLast Go.Proofs.YtmcmglclgdgdnaaW.PrintMore
attribute [local go_sem] max2_int min2_int max_two min_two max_three min_three max_four min_four   -- for this text's walks alone
set_option linter.unusedVariables false
set_option linter.unusedSimpArgs false

/-! ### laws_FnGrayBalanced: function 3 -/
mutual
def laws_FnGrayBalanced.j0 : Nat → Int → List (List Int) → Bool → Bool → Option (Bool)
  | 0, _, _, _, _ => none
  | k + 1, x5, x6, x9, x40 => if x40 = true then (some false) else (if x9 = true then ((impl_CountBalanced.f k x5).bind fun bt286 => (if bt286.2 = true then (laws_FnGrayBalanced.j1 k x6 bt286.1 ((x6.length : Int) != bt286.1)) else (laws_FnGrayBalanced.j1 k x6 bt286.1 true))) else (some true))
def laws_FnGrayBalanced.j1 : Nat → List (List Int) → Int → Bool → Option (Bool)
  | 0, _, _, _ => none
  | k + 1, x6, x10, x55 => if x55 = true then (some false) else (if 0 ≤ x10 then (if (x10 : Int).toNat ≤ 281474976710656 then (laws_FnGrayBalanced.l0 k x6 (List.replicate (x10 : Int).toNat false) x6 (x6.length : Int) 0) else (none)) else (none))
def laws_FnGrayBalanced.l0 : Nat → List (List Int) → List Bool → List (List Int) → Int → Int → Option (Bool)
  | 0, _, _, _, _, _ => none
  | k + 1, x6, x12, x58, x59, x60 => if x60 < x59 then (if 0 ≤ x60 then (if x60 < (x58.length : Int) then ((impl_RankBalanced.f k (rd_L2 x58 x60)).bind fun bt292 => (if bt292.2 = true then (if 0 ≤ bt292.1 then (if bt292.1 < (x12.length : Int) then (if rdOf false x12 bt292.1 = true then (some false) else (if x60 > 0 then (if 0 ≤ (wrap64 (x60 - 1)) then (if (wrap64 (x60 - 1)) < (x6.length : Int) then ((laws_tFar.f k (rd_L2 x58 x60) (rd_L2 x6 (wrap64 (x60 - 1)))).bind fun t296 => (if t296 = 2 then (laws_FnGrayBalanced.l0 k x6 (x12.set (bt292.1 : Int).toNat true) x58 x59 (wrap64 (x60 + 1))) else (some false))) else (none)) else (none)) else (laws_FnGrayBalanced.l0 k x6 (x12.set (bt292.1 : Int).toNat true) x58 x59 (wrap64 (x60 + 1))))) else (none)) else (none)) else (some false))) else (none)) else (none)) else (some true)
end
def laws_FnGrayBalanced.f (k : Nat) (l0 : List Int) (l1 : List Int) : Option (Bool) := (laws_big.f l0 l1).bind fun t275 => (if t275 = true then (some true) else ((spec_DrawGrayBalanced.f l0).bind fun t276 => ((impl_GrayBalanced.f k t276).bind fun bt277 => ((spec_GrayBalanced.f k t276).bind fun bt281 => (if (bt277.2 != bt281.2) = true then (laws_FnGrayBalanced.j0 k t276 bt277.1 bt281.2 true) else ((laws_tSameRows.f k bt277.1 bt281.1).bind fun t285 => (laws_FnGrayBalanced.j0 k t276 bt277.1 bt281.2 (!t285))))))))
theorem laws_FnGrayBalanced.mono_l : ∀ k, (∀ y0 y1 y2 y3, LeO (laws_FnGrayBalanced.j0 k y0 y1 y2 y3) (laws_FnGrayBalanced.j0 (k + 1) y0 y1 y2 y3)) ∧ (∀ y0 y1 y2, LeO (laws_FnGrayBalanced.j1 k y0 y1 y2) (laws_FnGrayBalanced.j1 (k + 1) y0 y1 y2)) ∧ (∀ y0 y1 y2 y3 y4, LeO (laws_FnGrayBalanced.l0 k y0 y1 y2 y3 y4) (laws_FnGrayBalanced.l0 (k + 1) y0 y1 y2 y3 y4))
  | 0 => ⟨fun _ _ _ _ r h => by simp [laws_FnGrayBalanced.j0] at h, fun _ _ _ r h => by simp [laws_FnGrayBalanced.j1] at h, fun _ _ _ _ _ r h => by simp [laws_FnGrayBalanced.l0] at h⟩
  | k + 1 => by
    obtain ⟨ih0, ih1, ih2⟩ := laws_FnGrayBalanced.mono_l k
    refine ⟨?_, ?_, ?_⟩
    · intro y0 y1 y2 y3
      unfold laws_FnGrayBalanced.j0
      repeat' first
      | (with_reducible exact ih0 _ _ _ _)
      | (with_reducible exact ih1 _ _ _)
      | (with_reducible exact ih2 _ _ _ _ _)
      | (with_reducible exact impl_CountBalanced.mono _ _)
      | (with_reducible exact impl_GrayBalanced.mono _ _)
      | (with_reducible exact impl_RankBalanced.mono _ _)
      | (with_reducible exact laws_tFar.mono _ _ _)
      | (with_reducible exact laws_tSameRows.mono _ _ _)
      | (with_reducible exact spec_GrayBalanced.mono _ _)
      | (with_reducible exact LeO.refl _)
      | (with_reducible exact LeO.none _)
      | (with_reducible refine LeO.ite ?_ ?_)
      | (with_reducible refine LeO.bind ?_ (fun _ => ?_))
      | exact ih0 _ _ _ _
      | exact ih1 _ _ _
      | exact ih2 _ _ _ _ _
      | exact impl_CountBalanced.mono _ _
      | exact impl_GrayBalanced.mono _ _
      | exact impl_RankBalanced.mono _ _
      | exact laws_tFar.mono _ _ _
      | exact laws_tSameRows.mono _ _ _
      | exact spec_GrayBalanced.mono _ _
      | exact LeO.none _
      | refine LeO.ite ?_ ?_
      | refine LeO.bind ?_ (fun _ => ?_)
    · intro y0 y1 y2
      unfold laws_FnGrayBalanced.j1
      repeat' first
      | (with_reducible exact ih0 _ _ _ _)
      | (with_reducible exact ih1 _ _ _)
      | (with_reducible exact ih2 _ _ _ _ _)
      | (with_reducible exact impl_CountBalanced.mono _ _)
      | (with_reducible exact impl_GrayBalanced.mono _ _)
      | (with_reducible exact impl_RankBalanced.mono _ _)
      | (with_reducible exact laws_tFar.mono _ _ _)
      | (with_reducible exact laws_tSameRows.mono _ _ _)
      | (with_reducible exact spec_GrayBalanced.mono _ _)
      | (with_reducible exact LeO.refl _)
      | (with_reducible exact LeO.none _)
      | (with_reducible refine LeO.ite ?_ ?_)
      | (with_reducible refine LeO.bind ?_ (fun _ => ?_))
      | exact ih0 _ _ _ _
      | exact ih1 _ _ _
      | exact ih2 _ _ _ _ _
      | exact impl_CountBalanced.mono _ _
      | exact impl_GrayBalanced.mono _ _
      | exact impl_RankBalanced.mono _ _
      | exact laws_tFar.mono _ _ _
      | exact laws_tSameRows.mono _ _ _
      | exact spec_GrayBalanced.mono _ _
      | exact LeO.none _
      | refine LeO.ite ?_ ?_
      | refine LeO.bind ?_ (fun _ => ?_)
    · intro y0 y1 y2 y3 y4
      unfold laws_FnGrayBalanced.l0
      repeat' first
      | (with_reducible exact ih0 _ _ _ _)
      | (with_reducible exact ih1 _ _ _)
      | (with_reducible exact ih2 _ _ _ _ _)
      | (with_reducible exact impl_CountBalanced.mono _ _)
      | (with_reducible exact impl_GrayBalanced.mono _ _)
      | (with_reducible exact impl_RankBalanced.mono _ _)
      | (with_reducible exact laws_tFar.mono _ _ _)
      | (with_reducible exact laws_tSameRows.mono _ _ _)
      | (with_reducible exact spec_GrayBalanced.mono _ _)
      | (with_reducible exact LeO.refl _)
      | (with_reducible exact LeO.none _)
      | (with_reducible refine LeO.ite ?_ ?_)
      | (with_reducible refine LeO.bind ?_ (fun _ => ?_))
      | exact ih0 _ _ _ _
      | exact ih1 _ _ _
      | exact ih2 _ _ _ _ _
      | exact impl_CountBalanced.mono _ _
      | exact impl_GrayBalanced.mono _ _
      | exact impl_RankBalanced.mono _ _
      | exact laws_tFar.mono _ _ _
      | exact laws_tSameRows.mono _ _ _
      | exact spec_GrayBalanced.mono _ _
      | exact LeO.none _
      | refine LeO.ite ?_ ?_
      | refine LeO.bind ?_ (fun _ => ?_)
theorem laws_FnGrayBalanced.mono : ∀ a0 a1 k, LeO (laws_FnGrayBalanced.f k a0 a1) (laws_FnGrayBalanced.f (k + 1) a0 a1) := by
  intro a0 a1 k
  obtain ⟨ih0, ih1, ih2⟩ := laws_FnGrayBalanced.mono_l k
  unfold laws_FnGrayBalanced.f
  repeat' first
      | (with_reducible exact ih0 _ _ _ _)
      | (with_reducible exact ih1 _ _ _)
      | (with_reducible exact ih2 _ _ _ _ _)
      | (with_reducible exact impl_CountBalanced.mono _ _)
      | (with_reducible exact impl_GrayBalanced.mono _ _)
      | (with_reducible exact impl_RankBalanced.mono _ _)
      | (with_reducible exact laws_tFar.mono _ _ _)
      | (with_reducible exact laws_tSameRows.mono _ _ _)
      | (with_reducible exact spec_GrayBalanced.mono _ _)
      | (with_reducible exact LeO.refl _)
      | (with_reducible exact LeO.none _)
      | (with_reducible refine LeO.ite ?_ ?_)
      | (with_reducible refine LeO.bind ?_ (fun _ => ?_))
      | exact ih0 _ _ _ _
      | exact ih1 _ _ _
      | exact ih2 _ _ _ _ _
      | exact impl_CountBalanced.mono _ _
      | exact impl_GrayBalanced.mono _ _
      | exact impl_RankBalanced.mono _ _
      | exact laws_tFar.mono _ _ _
      | exact laws_tSameRows.mono _ _ _
      | exact spec_GrayBalanced.mono _ _
      | exact LeO.none _
      | refine LeO.ite ?_ ?_
      | refine LeO.bind ?_ (fun _ => ?_)
set_option maxHeartbeats 8000000 in
set_option maxRecDepth 100000 in
theorem laws_FnGrayBalanced.calls (k : Nat) (A0 : Option Addr) (c0 : Nat) (l0 : List Int) (A1 : Option Addr) (c1 : Nat) (l1 : List Int) (r : Bool) (w : World) (hr0 : Kd.C (Kd.int .u8) w A0 l0.length l0) (hc0 : l0.length ≤ c0) (hr1 : Kd.C (Kd.int .u8) w A1 l1.length l1) (hc1 : l1.length ≤ c1) (h : laws_FnGrayBalanced.f k l0 l1 = some r) :
    Calls Try.prog 3 #[.slice A0 l0.length c0, .slice A1 l1.length c1] w fun e w' => e = .returned (.bool r) ∧ Below w.heap.size w w' := by
  have HR0 := Aside0.mk hr0
  have HC0 := Aside0.mk hc0
  clear hr0 hc0
  have HR1 := Aside0.mk hr1
  have HC1 := Aside0.mk hc1
  clear hr1 hc1
  have HB := Aside0.mk (Below.refl w.heap.size w)
  have H : ((laws_big.f l0 l1).bind fun t275 => (if t275 = true then (some true) else ((spec_DrawGrayBalanced.f l0).bind fun t276 => ((impl_GrayBalanced.f k t276).bind fun bt277 => ((spec_GrayBalanced.f k t276).bind fun bt281 => (if (bt277.2 != bt281.2) = true then (laws_FnGrayBalanced.j0 k t276 bt277.1 bt281.2 true) else ((laws_tSameRows.f k bt277.1 bt281.1).bind fun t285 => (laws_FnGrayBalanced.j0 k t276 bt277.1 bt281.2 (!t285))))))))) = some r := h
  clear h
  replace H := Option.bind_eq_some_iff.mp H
  obtain ⟨t275, A30, H⟩ := H
  replace H : (if t275 = true then (some true) else ((spec_DrawGrayBalanced.f l0).bind fun t276 => ((impl_GrayBalanced.f k t276).bind fun bt277 => ((spec_GrayBalanced.f k t276).bind fun bt281 => (if (bt277.2 != bt281.2) = true then (laws_FnGrayBalanced.j0 k t276 bt277.1 bt281.2 true) else ((laws_tSameRows.f k bt277.1 bt281.1).bind fun t285 => (laws_FnGrayBalanced.j0 k t276 bt277.1 bt281.2 (!t285)))))))) = some r := H
  have A3 := Aside0.mk A30
  clear A30
  by_cases c4 : t275 = true
  · subst c4
    have H1 : (some true) = some r := by rw [if_pos rfl] at H; exact H
    clear H
    have H := H1
    clear H1
    obtain rfl := Option.some.inj H
    go_enter Try.func3, Try.ntmps3
    go_wp2_with (first | ((with_reducible refine gate_callee (f := 15) rfl ?_); refine goesL_ (some 19) rfl rfl Try.func15 (by kernel_rfl) rfl #[.slice A0 l0.length c0, .slice A1 l1.length c1] rfl (by (try simp only [List.map_toArray, List.map_cons, List.map_nil]); first | done | rfl | (simp only [List.length_drop, List.length_take]; rfl)) ?_; (with_reducible refine (laws_big.calls _ _ l0 _ _ l1 true _ ?side1 ?side2 ?side3 ?side4 A3.out).mono ?_); (case side1 => repeat (first | exact HR0.out | (with_reducible refine Kd.C_alloc ?_ _) | (with_reducible refine Kd.C_drewN ?_ _) | (with_reducible refine Kd.C_drew ?_))); (case side2 => exact HC0.out); (case side3 => repeat (first | exact HR1.out | (with_reducible refine Kd.C_alloc ?_ _) | (with_reducible refine Kd.C_drewN ?_ _) | (with_reducible refine Kd.C_drew ?_))); (case side4 => exact HC1.out); rintro e w' ⟨rfl, ⟨nd, rfl⟩⟩; refine ⟨_, rfl, ?_⟩))
    go_ret
    exact ⟨by first | rfl | (simp [errW_none, errW_some] <;> rfl) | (simp [*, errW_none, errW_some] <;> rfl), by repeat (first | (with_reducible first | exact HB.out | apply below_alloc | apply pw_below_drewN | apply below_drew1) | exact HB.out)⟩
  · replace c4 := Bool.eq_false_iff.mpr c4
    subst c4
    have H1 : ((spec_DrawGrayBalanced.f l0).bind fun t276 => ((impl_GrayBalanced.f k t276).bind fun bt277 => ((spec_GrayBalanced.f k t276).bind fun bt281 => (if (bt277.2 != bt281.2) = true then (laws_FnGrayBalanced.j0 k t276 bt277.1 bt281.2 true) else ((laws_tSameRows.f k bt277.1 bt281.1).bind fun t285 => (laws_FnGrayBalanced.j0 k t276 bt277.1 bt281.2 (!t285))))))) = some r := by rw [if_neg (show ¬ (false = true) by decide)] at H; exact H
    clear H
    have H := H1
    clear H1
    replace H := Option.bind_eq_some_iff.mp H
    obtain ⟨t276, A50, H⟩ := H
    replace H : ((impl_GrayBalanced.f k t276).bind fun bt277 => ((spec_GrayBalanced.f k t276).bind fun bt281 => (if (bt277.2 != bt281.2) = true then (laws_FnGrayBalanced.j0 k t276 bt277.1 bt281.2 true) else ((laws_tSameRows.f k bt277.1 bt281.1).bind fun t285 => (laws_FnGrayBalanced.j0 k t276 bt277.1 bt281.2 (!t285)))))) = some r := H
    have A5 := Aside0.mk A50
    clear A50
    replace H := Option.bind_eq_some_iff.mp H
    obtain ⟨⟨t277, t278⟩, A60, H⟩ := H
    replace H : ((spec_GrayBalanced.f k t276).bind fun bt281 => (if (t278 != bt281.2) = true then (laws_FnGrayBalanced.j0 k t276 t277 bt281.2 true) else ((laws_tSameRows.f k t277 bt281.1).bind fun t285 => (laws_FnGrayBalanced.j0 k t276 t277 bt281.2 (!t285))))) = some r := H
    have A6 := Aside0.mk A60
    clear A60
    replace H := Option.bind_eq_some_iff.mp H
    obtain ⟨⟨t281, t282⟩, A70, H⟩ := H
    replace H : (if (t278 != t282) = true then (laws_FnGrayBalanced.j0 k t276 t277 t282 true) else ((laws_tSameRows.f k t277 t281).bind fun t285 => (laws_FnGrayBalanced.j0 k t276 t277 t282 (!t285)))) = some r := H
    have A7 := Aside0.mk A70
    clear A70
    have HC8 := Aside0.mk H
    clear H
    go_enter Try.func3, Try.ntmps3
    go_upto_region 6 with (first | ((with_reducible refine gate_callee (f := 15) rfl ?_); refine goesL_ (some 19) rfl rfl Try.func15 (by kernel_rfl) rfl #[.slice A0 l0.length c0, .slice A1 l1.length c1] rfl (by (try simp only [List.map_toArray, List.map_cons, List.map_nil]); first | done | rfl | (simp only [List.length_drop, List.length_take]; rfl)) ?_; (with_reducible refine (laws_big.calls _ _ l0 _ _ l1 false _ ?side1 ?side2 ?side3 ?side4 A3.out).mono ?_); (case side1 => repeat (first | exact HR0.out | (with_reducible refine Kd.C_alloc ?_ _) | (with_reducible refine Kd.C_drewN ?_ _) | (with_reducible refine Kd.C_drew ?_))); (case side2 => exact HC0.out); (case side3 => repeat (first | exact HR1.out | (with_reducible refine Kd.C_alloc ?_ _) | (with_reducible refine Kd.C_drewN ?_ _) | (with_reducible refine Kd.C_drew ?_))); (case side4 => exact HC1.out); rintro e w' ⟨rfl, ⟨nd, rfl⟩⟩; refine ⟨_, rfl, ?_⟩) | ((with_reducible refine gate_callee (f := 16) rfl ?_); refine goesL_ (some 21) rfl rfl Try.func16 (by kernel_rfl) rfl #[.slice A0 l0.length c0] rfl (by (try simp only [List.map_toArray, List.map_cons, List.map_nil]); first | done | rfl | (simp only [List.length_drop, List.length_take]; rfl)) ?_; (with_reducible refine (spec_DrawGrayBalanced.calls _ _ l0 t276 _ ?side1 ?side2 A5.out).mono ?_); (case side1 => repeat (first | exact HR0.out | (with_reducible refine Kd.C_alloc ?_ _) | (with_reducible refine Kd.C_drewN ?_ _) | (with_reducible refine Kd.C_drew ?_))); (case side2 => exact HC0.out); rintro e w9 ⟨rfl, hb⟩; refine ⟨_, rfl, ?_⟩; have n0_ := Aside0.mk (below_step (by repeat (first | (with_reducible first | exact HB.out | apply below_alloc | apply pw_below_drewN | apply below_drew1) | exact HB.out)) hb); clear HB; have HB := n0_; clear n0_; (try clear hb); (try clear hb2); (try clear hk); (try clear hi)) | ((with_reducible refine gate_callee (f := 17) rfl ?_); refine goesL_ (some 24) rfl rfl Try.func17 (by kernel_rfl) rfl #[.int .i64 t276] rfl (by (try simp only [List.map_toArray, List.map_cons, List.map_nil]); first | done | rfl | (simp only [List.length_drop, List.length_take]; rfl)) ?_; (with_reducible refine (impl_GrayBalanced.calls k t276 t277 t278 _ A6.out).mono ?_); rintro e w10 ⟨v279, rfl, ho0, hb⟩; refine ⟨_, rfl, ?_⟩; have n0_ := Aside0.mk (Kd.S_lower ho0 (below_size (by repeat (first | (with_reducible first | exact HB.out | apply below_alloc | apply pw_below_drewN | apply below_drew1) | exact HB.out)))); have n1_ := Aside0.mk (below_step (by repeat (first | (with_reducible first | exact HB.out | apply below_alloc | apply pw_below_drewN | apply below_drew1) | exact HB.out)) hb); clear HB; have HO280 := n0_; have HB := n1_; clear n0_ n1_; (try clear hb); (try clear hb2); (try clear hk); (try clear hi); (try clear ho0)) | ((with_reducible refine gate_callee (f := 18) rfl ?_); refine goesL_ (some 29) rfl rfl Try.func18 (by kernel_rfl) rfl #[.int .i64 t276] rfl (by (try simp only [List.map_toArray, List.map_cons, List.map_nil]); first | done | rfl | (simp only [List.length_drop, List.length_take]; rfl)) ?_; (with_reducible refine (spec_GrayBalanced.calls k t276 t281 t282 _ A7.out).mono ?_); rintro e w11 ⟨v283, rfl, ho0, hb⟩; refine ⟨_, rfl, ?_⟩; have n0_ := Aside0.mk (Kd.S_elder' (by (with_reducible repeat (first | apply Kd.S_alloc | apply Kd.S_drewN | apply Kd.S_drew)); (first | exact HO280.out | (have hz_ := HO280.out; (try simp only [ob_] at hz_); (try simp only [ob_]); exact hz_))) (Kd.S_base ho0) hb); have n1_ := Aside0.mk (Kd.S_lower (Kd.S_new' ho0 (Kd.S_lt (by (with_reducible repeat (first | apply Kd.S_alloc | apply Kd.S_drewN | apply Kd.S_drew)); (first | exact HO280.out | (have hz_ := HO280.out; (try simp only [ob_] at hz_); (try simp only [ob_]); exact hz_))))) (below_size (by repeat (first | (with_reducible first | exact HB.out | apply below_alloc | apply pw_below_drewN | apply below_drew1) | exact HB.out)))); have n2_ := Aside0.mk (below_step (by repeat (first | (with_reducible first | exact HB.out | apply below_alloc | apply pw_below_drewN | apply below_drew1) | exact HB.out)) hb); clear HO280; clear HB; have HO280 := n0_; have HO284 := n1_; have HB := n2_; clear n0_ n1_ n2_; (try clear hb); (try clear hb2); (try clear hk); (try clear hi); (try clear ho0)))
    (try simp only [Act.put, List.setIfInBounds_toArray, List.set_cons_zero, List.set_cons_succ])
    go_cut [40] (fun v40 wc => ∃ (kq : Nat) (x40_7 : Bool), v40 = .bool x40_7 ∧ Aside0 (laws_FnGrayBalanced.j0 kq t276 t277 t282 x40_7 = some r) ∧ Aside0 (kq ≤ k) ∧ Aside0 (Kd.S (Kd.slice 3 (Kd.int .i64)) 32 wc w.heap.size (fun _ => True) v279 t277) ∧ Aside0 (Below w.heap.size w wc))
    case first =>
      have H := HC8.out
      clear HC8
      by_cases c12 : (t278 != t282) = true
      · rw [if_pos c12] at H
        have c12b0 : (t278 != t282) = true := c12
        (try (have c12b1 : decide (t278 = t282) = false := by simpa using c12))
        (try (have c12b2 : (t278 == t282) = false := by simpa using c12))
        (try (have c12b3 : ¬ (t278 = t282) := by simpa using c12))
        clear c12
        (first | rw [c12b0] | (simp only [i64_w, i32_w]; rw [c12b0]) | skip)
        have H' := Aside0.mk H
        clear H
        go_wp2
        go_meet
        case rel => exact ⟨_, (true), (by first | rfl | (simp; done) | (simp [*]; done)), H', ⟨by first | omega | exact Nat.le_refl _⟩, ⟨by (with_reducible repeat (first | apply Kd.S_alloc | apply Kd.S_drewN | apply Kd.S_drew)); exact Kd.S_mono HO280.out (fun _ hk => trivial)⟩, ⟨by repeat (first | (with_reducible first | exact HB.out | apply below_alloc | apply pw_below_drewN | apply below_drew1) | exact HB.out)⟩⟩
      · rw [if_neg c12] at H
        have c12b0 : (t278 != t282) = false := by simpa using c12
        (try (have c12b1 : decide (t278 = t282) = true := by simpa using c12))
        (try (have c12b2 : (t278 == t282) = true := by simpa using c12))
        clear c12
        (first | rw [c12b0] | (simp only [i64_w, i32_w]; rw [c12b0]) | skip)
        replace H := Option.bind_eq_some_iff.mp H
        obtain ⟨t285, A130, H⟩ := H
        replace H : (laws_FnGrayBalanced.j0 k t276 t277 t282 (!t285)) = some r := H
        have A13 := Aside0.mk A130
        clear A130
        have H' := Aside0.mk H
        clear H
        obtain ⟨Ao14, co14, eo14⟩ := Kd.S_slice HO280.out
        subst eo14
        obtain ⟨Ao15, co15, eo15⟩ := Kd.S_slice HO284.out
        subst eo15
        go_wp2_with (first | (go_at_call 19; (with_reducible refine (laws_tSameRows.calls k _ _ t277 _ _ t281 t285 _ ?side1 ?side2 ?side3 ?side4 A13.out).mono ?_); (case side1 => repeat (first | exact (Kd.S_reads' HO280.out).2.2 | (with_reducible refine Kd.C_alloc ?_ _) | (with_reducible refine Kd.C_drewN ?_ _) | (with_reducible refine Kd.C_drew ?_))); (case side2 => exact (Kd.S_reads' HO280.out).2.1); (case side3 => repeat (first | exact (Kd.S_reads' HO284.out).2.2 | (with_reducible refine Kd.C_alloc ?_ _) | (with_reducible refine Kd.C_drewN ?_ _) | (with_reducible refine Kd.C_drew ?_))); (case side4 => exact (Kd.S_reads' HO284.out).2.1); rintro e w' ⟨rfl, ⟨nd, rfl⟩⟩))
        go_meet
        case rel => exact ⟨_, (!t285), (by first | rfl | (simp; done) | (simp [*]; done)), H', ⟨by first | omega | exact Nat.le_refl _⟩, ⟨by (with_reducible repeat (first | apply Kd.S_alloc | apply Kd.S_drewN | apply Kd.S_drew)); exact Kd.S_mono HO280.out (fun _ hk => trivial)⟩, ⟨by repeat (first | (with_reducible first | exact HB.out | apply below_alloc | apply pw_below_drewN | apply below_drew1) | exact HB.out)⟩⟩
    case rest =>
      clear HC8
      try clear c1
      try clear p2
      try clear c3
      try clear c4
      try clear c12
      try clear c12b0
      try clear c12b1
      try clear c12b2
      try clear c15
      obtain ⟨kq, x40_7, rfl, HA, HJ7, HO_6, HB⟩ := hcut
      cases kq with
      | zero => exact absurd HA.out (by simp [laws_FnGrayBalanced.j0])
      | succ kj7 =>
        have H := HA.out
        clear HA
        simp only [laws_FnGrayBalanced.j0] at H
        by_cases c16 : x40_7 = true
        · subst c16
          have H1 : (some false) = some r := by rw [if_pos rfl] at H; exact H
          clear H
          have H := H1
          clear H1
          obtain rfl := Option.some.inj H
          go_wp2
          go_ret
          exact ⟨by first | rfl | (simp [errW_none, errW_some] <;> rfl) | (simp [*, errW_none, errW_some] <;> rfl), by repeat (first | (with_reducible first | exact HB.out | apply below_alloc | apply pw_below_drewN | apply below_drew1) | exact HB.out)⟩
        · replace c16 := Bool.eq_false_iff.mpr c16
          subst c16
          have H1 : (if t282 = true then ((impl_CountBalanced.f kj7 t276).bind fun bt286 => (if bt286.2 = true then (laws_FnGrayBalanced.j1 kj7 t277 bt286.1 ((t277.length : Int) != bt286.1)) else (laws_FnGrayBalanced.j1 kj7 t277 bt286.1 true))) else (some true)) = some r := by rw [if_neg (show ¬ (false = true) by decide)] at H; exact H
          clear H
          have H := H1
          clear H1
          by_cases c17 : t282 = true
          · subst c17
            have H1 : ((impl_CountBalanced.f kj7 t276).bind fun bt286 => (if bt286.2 = true then (laws_FnGrayBalanced.j1 kj7 t277 bt286.1 ((t277.length : Int) != bt286.1)) else (laws_FnGrayBalanced.j1 kj7 t277 bt286.1 true))) = some r := by rw [if_pos rfl] at H; exact H
            clear H
            have H := H1
            clear H1
            replace H := Option.bind_eq_some_iff.mp H
            obtain ⟨⟨t286, t287⟩, A180, H⟩ := H
            replace H : (if t287 = true then (laws_FnGrayBalanced.j1 kj7 t277 t286 ((t277.length : Int) != t286)) else (laws_FnGrayBalanced.j1 kj7 t277 t286 true)) = some r := H
            have A18 := Aside0.mk A180
            clear A180
            have HC19 := Aside0.mk H
            clear H
            go_upto_region 11 with (first | ((with_reducible refine gate_callee (f := 20) rfl ?_); refine goesL_ (some 45) rfl rfl Try.func20 (by kernel_rfl) rfl #[.int .i64 t276] rfl (by (try simp only [List.map_toArray, List.map_cons, List.map_nil]); first | done | rfl | (simp only [List.length_drop, List.length_take]; rfl)) ?_; (with_reducible refine (impl_CountBalanced.calls kj7 t276 t286 t287 _ A18.out).mono ?_); rintro e w20 ⟨rfl, hb⟩; refine ⟨_, rfl, ?_⟩; have n0_ := Aside0.mk (Kd.S_below (by (with_reducible repeat (first | apply Kd.S_alloc | apply Kd.S_drewN | apply Kd.S_drew)); (first | exact HO_6.out | (have hz_ := HO_6.out; (try simp only [ob_] at hz_); (try simp only [ob_]); exact hz_))) hb); have n1_ := Aside0.mk (below_step (by repeat (first | (with_reducible first | exact HB.out | apply below_alloc | apply pw_below_drewN | apply below_drew1) | exact HB.out)) hb); clear HO_6; clear HB; have HO_6 := n0_; have HB := n1_; clear n0_ n1_; (try clear hb); (try clear hb2); (try clear hk); (try clear hi)))
            (try simp only [Act.put, List.setIfInBounds_toArray, List.set_cons_zero, List.set_cons_succ])
            go_cut [55] (fun v55 wc => ∃ (kq : Nat) (x55_18 : Bool), v55 = .bool x55_18 ∧ Aside0 (laws_FnGrayBalanced.j1 kq t277 t286 x55_18 = some r) ∧ Aside0 (kq ≤ kj7) ∧ Aside0 (Kd.S (Kd.slice 3 (Kd.int .i64)) 32 wc w.heap.size (fun _ => True) v279 t277) ∧ Aside0 (Below w.heap.size w wc))
            case first =>
              have H := HC19.out
              clear HC19
              by_cases c21 : t287 = true
              · subst c21
                have H1 : (laws_FnGrayBalanced.j1 kj7 t277 t286 ((t277.length : Int) != t286)) = some r := by rw [if_pos rfl] at H; exact H
                clear H
                have H := H1
                clear H1
                have H' := Aside0.mk H
                clear H
                obtain ⟨Ao22, co22, eo22⟩ := Kd.S_slice HO_6.out
                subst eo22
                go_wp2
                go_meet
                case rel => exact ⟨_, (((t277.length : Int) != t286)), (by first | rfl | (simp; done) | (simp [*]; done)), H', ⟨by have := HJ7.out; first | omega | exact Nat.le_refl _⟩, ⟨by (with_reducible repeat (first | apply Kd.S_alloc | apply Kd.S_drewN | apply Kd.S_drew)); (first | exact HO_6.out | (have hz_ := HO_6.out; (try simp only [ob_] at hz_); (try simp only [ob_]); exact hz_))⟩, ⟨by repeat (first | (with_reducible first | exact HB.out | apply below_alloc | apply pw_below_drewN | apply below_drew1) | exact HB.out)⟩⟩
              · replace c21 := Bool.eq_false_iff.mpr c21
                subst c21
                have H1 : (laws_FnGrayBalanced.j1 kj7 t277 t286 true) = some r := by rw [if_neg (show ¬ (false = true) by decide)] at H; exact H
                clear H
                have H := H1
                clear H1
                have H' := Aside0.mk H
                clear H
                go_wp2
                go_meet
                case rel => exact ⟨_, (true), (by first | rfl | (simp; done) | (simp [*]; done)), H', ⟨by have := HJ7.out; first | omega | exact Nat.le_refl _⟩, ⟨by (with_reducible repeat (first | apply Kd.S_alloc | apply Kd.S_drewN | apply Kd.S_drew)); (first | exact HO_6.out | (have hz_ := HO_6.out; (try simp only [ob_] at hz_); (try simp only [ob_]); exact hz_))⟩, ⟨by repeat (first | (with_reducible first | exact HB.out | apply below_alloc | apply pw_below_drewN | apply below_drew1) | exact HB.out)⟩⟩
            case rest =>
              clear HC19
              try clear c1
              try clear c2
              try clear p2
              try clear c3
              try clear c4
              try clear c12
              try clear c12b0
              try clear c12b1
              try clear c12b2
              try clear c15
              try clear c16
              try clear c17
              try clear c18
              try clear c20
              try clear c21
              try clear p2
              obtain ⟨kq, x55_18, rfl, HA, HJ18, HO_6, HB⟩ := hcut
              cases kq with
              | zero => exact absurd HA.out (by simp [laws_FnGrayBalanced.j1])
              | succ kj18 =>
                have H := HA.out
                clear HA
                simp only [laws_FnGrayBalanced.j1] at H
                by_cases c23 : x55_18 = true
                · subst c23
                  have H1 : (some false) = some r := by rw [if_pos rfl] at H; exact H
                  clear H
                  have H := H1
                  clear H1
                  obtain rfl := Option.some.inj H
                  go_wp2
                  go_ret
                  exact ⟨by first | rfl | (simp [errW_none, errW_some] <;> rfl) | (simp [*, errW_none, errW_some] <;> rfl), by repeat (first | (with_reducible first | exact HB.out | apply below_alloc | apply pw_below_drewN | apply below_drew1) | exact HB.out)⟩
                · replace c23 := Bool.eq_false_iff.mpr c23
                  subst c23
                  have H1 : (if 0 ≤ t286 then (if (t286 : Int).toNat ≤ 281474976710656 then (laws_FnGrayBalanced.l0 kj18 t277 (List.replicate (t286 : Int).toNat false) t277 (t277.length : Int) 0) else (none)) else (none)) = some r := by rw [if_neg (show ¬ (false = true) by decide)] at H; exact H
                  clear H
                  have H := H1
                  clear H1
                  by_cases c24 : 0 ≤ t286
                  · rw [if_pos c24] at H
                    have c24b0 := eq_true c24
                    have c24b1 : decide (0 ≤ t286) = true := decide_eq_true c24
                    clear c24
                    by_cases c25 : (t286 : Int).toNat ≤ 281474976710656
                    · rw [if_pos c25] at H
                      have c25b0 := eq_true c25
                      have c25b1 : decide ((t286 : Int).toNat ≤ 281474976710656) = true := decide_eq_true c25
                      clear c25
                      obtain ⟨y288, hy288⟩ : ∃ y_ : List Bool, y_ = (List.replicate (t286 : Int).toNat false) := ⟨_, rfl⟩
                      replace H : (laws_FnGrayBalanced.l0 kj18 t277 y288 t277 (t277.length : Int) 0) = some r := by first | (rw [hy288]; with_reducible exact H) | (have H2_ := (Option.bind_some _ _).symm.trans H; rw [hy288]; with_reducible exact H2_) | (have H2_ := (Option.bind_some _ _).symm.trans H; with_reducible exact H2_) | with_reducible exact H | (rw [hy288]; exact H) | exact H
                      have Ny288 := Aside0.mk hy288
                      clear hy288
                      have H' := Aside0.mk H
                      clear H
                      go_wp2_with (first | ((with_reducible refine gate_dst (N := 57) rfl ?_); (try (refine gate_guard (by rfl) ?_; dsimp only)); refine Kd.R_make Kd.bool _ 4 rfl (N := 57) rfl 31 _ _ rfl t286 rfl rfl Try.underlying31 (.bool false) 1 info4 rfl (by decide) (by omega) false (ok := fun _ => True) (okp := fun _ => True) rfl (fun _ hk => hk) trivial (of_decide_eq_true (by first | (with_reducible assumption) | assumption)) (Nat.le_trans (Nat.mul_le_mul_right _ (of_decide_eq_true (by first | (with_reducible assumption) | assumption) : t286.toNat ≤ 281474976710656)) (by omega)) (Below.refl _ _) (Nat.le_refl _) ?_; intro v289 w26 ho27 hb hg_ hnew_; clear hg_ hnew_; (first | rw [← Ny288.out] at ho27 | (simp only [Int.reduceToNat] at ho27; rw [← Ny288.out] at ho27)); have n0_ := Aside0.mk (Kd.S_below (by (with_reducible repeat (first | apply Kd.S_alloc | apply Kd.S_drewN | apply Kd.S_drew)); (first | exact HO_6.out | (have hz_ := HO_6.out; (try simp only [ob_] at hz_); (try simp only [ob_]); exact hz_))) hb); have n1_ := Aside0.mk (Kd.R_lower ho27 (below_size (by repeat (first | (with_reducible first | exact HB.out | apply below_alloc | apply pw_below_drewN | apply below_drew1) | exact HB.out)))); have n2_ := Aside0.mk (below_step (by repeat (first | (with_reducible first | exact HB.out | apply below_alloc | apply pw_below_drewN | apply below_drew1) | exact HB.out)) hb); clear HO_6; clear HB; have HO_6 := n0_; have HO290 := n1_; have HB := n2_; clear n0_ n1_ n2_; clear hb ho27; obtain ⟨Ao28, co28, eo28⟩ := Kd.S_slice HO_6.out; subst eo28))
                      go_loopg [60] kj18 (fun kq v60 w' => ∃ (x12_3 : List Bool) (x60_3 : Int), v60 = .int .i64 x60_3 ∧ Aside0 (laws_FnGrayBalanced.l0 kq t277 x12_3 t277 (t277.length : Int) x60_3 = some r) ∧ Aside0 (kq ≤ kj18) ∧ Aside0 (Kd.S (Kd.slice 3 (Kd.int .i64)) 32 w' w.heap.size (fun _ => True) (.slice Ao28 t277.length co28) t277) ∧ Aside0 (Kd.R Kd.bool 4 w' w.heap.size (fun _ => True) v289 x12_3) ∧ Aside0 (Kd.S (Kd.slice 3 (Kd.int .i64)) 32 w' w.heap.size (fun _ => True) (.slice Ao28 t277.length co28) t277) ∧ Aside0 (Below w.heap.size w w'))
                      case atStart => exact ⟨(y288), (0), (by first | rfl | (simp; done) | (simp [*]; done)), H', ⟨Nat.le_refl _⟩, ⟨by (with_reducible repeat (first | apply Kd.S_alloc | apply Kd.S_drewN | apply Kd.S_drew)); (first | exact HO_6.out | (have hz_ := HO_6.out; (try simp only [ob_] at hz_); (try simp only [ob_]); exact hz_))⟩, ⟨by (with_reducible repeat (first | apply Kd.R_alloc | apply Kd.R_drewN | apply Kd.R_drew)); (first | exact HO290.out | (have hz_ := HO290.out; (try simp only [ob_] at hz_); (try simp only [ob_]); exact hz_))⟩, ⟨by (with_reducible repeat (first | apply Kd.S_alloc | apply Kd.S_drewN | apply Kd.S_drew)); (first | exact HO_6.out | (have hz_ := HO_6.out; (try simp only [ob_] at hz_); (try simp only [ob_]); exact hz_))⟩, ⟨by repeat (first | (with_reducible first | exact HB.out | apply below_alloc | apply pw_below_drewN | apply below_drew1) | exact HB.out)⟩⟩
                      case round =>
                        clear H'
                        try clear c1
                        try clear c2
                        try clear p2
                        try clear c3
                        try clear c4
                        try clear c12
                        try clear c12b0
                        try clear c12b1
                        try clear c12b2
                        try clear c15
                        try clear c16
                        try clear c17
                        try clear c18
                        try clear c20
                        try clear c21
                        try clear c23
                        try clear c24
                        try clear c24b0
                        try clear c24b1
                        try clear c25
                        try clear c25b0
                        try clear c25b1
                        try clear p2
                        obtain ⟨x12_3, x60_3, rfl, HA, HK3, HO_6, HO_12, HO_58, HB⟩ := hrel
                        cases gk with
                        | zero => exact absurd HA.out (by simp [laws_FnGrayBalanced.l0])
                        | succ k3 =>
                          have H := HA.out
                          clear HA
                          simp only [laws_FnGrayBalanced.l0] at H
                          by_cases c29 : x60_3 < (t277.length : Int)
                          · rw [if_pos c29] at H
                            have c29b0 : decide (x60_3 < (t277.length : Int)) = true := decide_eq_true c29
                            clear c29
                            by_cases c30 : 0 ≤ x60_3
                            · rw [if_pos c30] at H
                              have c30b0 : decide (0 ≤ x60_3) = true := decide_eq_true c30
                              clear c30
                              by_cases c31 : x60_3 < (t277.length : Int)
                              · rw [if_pos c31] at H
                                have c31b0 : decide (x60_3 < (t277.length : Int)) = true := decide_eq_true c31
                                clear c31
                                replace H := Option.bind_eq_some_iff.mp H
                                obtain ⟨⟨t292, t293⟩, A320, H⟩ := H
                                replace H : (if t293 = true then (if 0 ≤ t292 then (if t292 < (x12_3.length : Int) then (if rdOf false x12_3 t292 = true then (some false) else (if x60_3 > 0 then (if 0 ≤ (wrap64 (x60_3 - 1)) then (if (wrap64 (x60_3 - 1)) < (t277.length : Int) then ((laws_tFar.f k3 (rd_L2 t277 x60_3) (rd_L2 t277 (wrap64 (x60_3 - 1)))).bind fun t296 => (if t296 = 2 then (laws_FnGrayBalanced.l0 k3 t277 (x12_3.set (t292 : Int).toNat true) t277 (t277.length : Int) (wrap64 (x60_3 + 1))) else (some false))) else (none)) else (none)) else (laws_FnGrayBalanced.l0 k3 t277 (x12_3.set (t292 : Int).toNat true) t277 (t277.length : Int) (wrap64 (x60_3 + 1))))) else (none)) else (none)) else (some false)) = some r := H
                                have A32 := Aside0.mk A320
                                clear A320
                                by_cases c33 : t293 = true
                                · subst c33
                                  have H1 : (if 0 ≤ t292 then (if t292 < (x12_3.length : Int) then (if rdOf false x12_3 t292 = true then (some false) else (if x60_3 > 0 then (if 0 ≤ (wrap64 (x60_3 - 1)) then (if (wrap64 (x60_3 - 1)) < (t277.length : Int) then ((laws_tFar.f k3 (rd_L2 t277 x60_3) (rd_L2 t277 (wrap64 (x60_3 - 1)))).bind fun t296 => (if t296 = 2 then (laws_FnGrayBalanced.l0 k3 t277 (x12_3.set (t292 : Int).toNat true) t277 (t277.length : Int) (wrap64 (x60_3 + 1))) else (some false))) else (none)) else (none)) else (laws_FnGrayBalanced.l0 k3 t277 (x12_3.set (t292 : Int).toNat true) t277 (t277.length : Int) (wrap64 (x60_3 + 1))))) else (none)) else (none)) = some r := by rw [if_pos rfl] at H; exact H
                                  clear H
                                  have H := H1
                                  clear H1
                                  by_cases c34 : 0 ≤ t292
                                  · rw [if_pos c34] at H
                                    have c34b0 : decide (0 ≤ t292) = true := decide_eq_true c34
                                    clear c34
                                    by_cases c35 : t292 < (x12_3.length : Int)
                                    · rw [if_pos c35] at H
                                      have c35b0 : decide (t292 < (x12_3.length : Int)) = true := decide_eq_true c35
                                      clear c35
                                      obtain ⟨bq36, hbq36⟩ : ∃ b_ : Bool, b_ = (rdOf false x12_3 t292) := ⟨_, rfl⟩
                                      replace H : (if bq36 = true then (some false) else (if x60_3 > 0 then (if 0 ≤ (wrap64 (x60_3 - 1)) then (if (wrap64 (x60_3 - 1)) < (t277.length : Int) then ((laws_tFar.f k3 (rd_L2 t277 x60_3) (rd_L2 t277 (wrap64 (x60_3 - 1)))).bind fun t296 => (if t296 = 2 then (laws_FnGrayBalanced.l0 k3 t277 (x12_3.set (t292 : Int).toNat true) t277 (t277.length : Int) (wrap64 (x60_3 + 1))) else (some false))) else (none)) else (none)) else (laws_FnGrayBalanced.l0 k3 t277 (x12_3.set (t292 : Int).toNat true) t277 (t277.length : Int) (wrap64 (x60_3 + 1))))) = some r := by rw [← hbq36] at H; exact H
                                      have Nbq36 := Aside0.mk hbq36
                                      clear hbq36
                                      by_cases c37 : bq36 = true
                                      · subst c37
                                        have H1 : (some false) = some r := by rw [if_pos rfl] at H; exact H
                                        clear H
                                        have H := H1
                                        clear H1
                                        obtain rfl := Option.some.inj H
                                        have p291 : 0 ≤ (x60_3 : Int) := of_decide_eq_true (by first | (with_reducible assumption) | assumption)
                                        have q291 : x60_3 < (t277.length : Int) := of_decide_eq_true (by first | (with_reducible assumption) | assumption)
                                        obtain ⟨ad291, A291_0, c291_0, e291, hx291_0, hl291_0, hi291_0⟩ := at_L2 (Kd.S_reads' HO_58.out).2.2 x60_3 p291 q291
                                        cases e291
                                        obtain ⟨ce291, hce291, hMe291, hcc291⟩ := Kd.S_get HO_58.out [] x60_3 p291 (by first | exact q291 | exact of_decide_eq_true (by first | (with_reducible assumption) | assumption) | (have e_ := (Kd.S_reads' HO_58.out).1; omega))
                                        obtain ⟨ve291_0, rfl, ge291_0⟩ := hMe291
                                        have hv291_0 := hcc291 0 _ rfl
                                        rw [Nat.add_zero, show ((Kd.slice 3 (Kd.int .i64))).sz = 1 from rfl, Nat.mul_one] at hv291_0
                                        replace hv291_0 := Option.some.inj (hv291_0.symm.trans hx291_0)
                                        rw [hv291_0] at ge291_0
                                        have HL291_0 := Aside0.mk (show Kd.R (Kd.int .i64) 3 _ _ _ _ (rd_L2 t277 x60_3) from ge291_0)
                                        clear hv291_0 ge291_0
                                        clear hcc291 hce291
                                        have HR291_0 := Aside0.mk hi291_0
                                        have HC291_0 := Aside0.mk hl291_0
                                        clear hi291_0 hl291_0
                                        replace p291 := eq_true p291
                                        replace q291 := eq_true q291
                                        go_wp2_with (first | ((with_reducible refine gate_callee (f := 21) rfl ?_); refine goesL_ (some 67) rfl rfl Try.func21 (by kernel_rfl) rfl #[.slice A291_0 (rd_L2 t277 x60_3).length c291_0] rfl (by (try simp only [List.map_toArray, List.map_cons, List.map_nil]); first | done | rfl | (simp only [List.length_drop, List.length_take]; rfl)) ?_; (with_reducible refine (impl_RankBalanced.calls k3 _ _ (rd_L2 t277 x60_3) t292 true _ ?side1 ?side2 A32.out).mono ?_); (case side1 => repeat (first | exact (by repeat (first | (with_reducible exact HR291_0.out) | (with_reducible refine Kd.C_alloc ?_ _) | (with_reducible refine Kd.C_drewN ?_ _) | (with_reducible refine Kd.C_drew ?_) | exact HR291_0.out)) | (with_reducible refine Kd.C_alloc ?_ _) | (with_reducible refine Kd.C_drewN ?_ _) | (with_reducible refine Kd.C_drew ?_))); (case side2 => exact HC291_0.out); rintro e w38 ⟨rfl, hb⟩; refine ⟨_, rfl, ?_⟩; have n0_ := Aside0.mk (Kd.S_below (by (with_reducible repeat (first | apply Kd.S_alloc | apply Kd.S_drewN | apply Kd.S_drew)); (first | exact HO_6.out | (have hz_ := HO_6.out; (try simp only [ob_] at hz_); (try simp only [ob_]); exact hz_))) hb); have n1_ := Aside0.mk (Kd.R_below (by (with_reducible repeat (first | apply Kd.R_alloc | apply Kd.R_drewN | apply Kd.R_drew)); (first | exact HO_12.out | (have hz_ := HO_12.out; (try simp only [ob_] at hz_); (try simp only [ob_]); exact hz_))) hb); have n2_ := Aside0.mk (Kd.S_below (by (with_reducible repeat (first | apply Kd.S_alloc | apply Kd.S_drewN | apply Kd.S_drew)); (first | exact HO_58.out | (have hz_ := HO_58.out; (try simp only [ob_] at hz_); (try simp only [ob_]); exact hz_))) hb); have n3_ := Aside0.mk (Kd.R_below (by (with_reducible repeat (first | apply Kd.R_alloc | apply Kd.R_drewN | apply Kd.R_drew)); exact HL291_0.out) hb); have n4_ := Aside0.mk (Kd.C_below (by repeat (first | (with_reducible exact HR291_0.out) | (with_reducible refine Kd.C_alloc ?_ _) | (with_reducible refine Kd.C_drewN ?_ _) | (with_reducible refine Kd.C_drew ?_) | exact HR291_0.out)) hb); have n5_ := Aside0.mk (below_step (by repeat (first | (with_reducible first | exact HB.out | apply below_alloc | apply pw_below_drewN | apply below_drew1) | exact HB.out)) hb); clear HO_6; clear HO_12; clear HO_58; clear HL291_0; clear HR291_0; clear HB; have HO_6 := n0_; have HO_12 := n1_; have HO_58 := n2_; have HL291_0 := n3_; have HR291_0 := n4_; have HB := n5_; clear n0_ n1_ n2_ n3_ n4_ n5_; (try clear hb); (try clear hb2); (try clear hk); (try clear hi); obtain ⟨Ao39, co39, eo39⟩ := Kd.R_slice HO_12.out; subst eo39; have p294 : 0 ≤ (t292 : Int) := of_decide_eq_true (by first | (with_reducible assumption) | assumption); have q294 : t292 < (x12_3.length : Int) := of_decide_eq_true (by first | (with_reducible assumption) | assumption); obtain ⟨ad294, e294, hx294_0⟩ := Kd.at_bool (Kd.R_reads' HO_12.out).2.2 t292 p294 q294; (try rw [← Nbq36.out] at hx294_0); cases e294; replace p294 := eq_true p294; replace q294 := eq_true q294))
                                        go_ret
                                        exact ⟨by first | rfl | (simp [errW_none, errW_some] <;> rfl) | (simp [*, errW_none, errW_some] <;> rfl), by repeat (first | (with_reducible first | exact HB.out | apply below_alloc | apply pw_below_drewN | apply below_drew1) | exact HB.out)⟩
                                      · replace c37 := Bool.eq_false_iff.mpr c37
                                        subst c37
                                        have H1 : (if x60_3 > 0 then (if 0 ≤ (wrap64 (x60_3 - 1)) then (if (wrap64 (x60_3 - 1)) < (t277.length : Int) then ((laws_tFar.f k3 (rd_L2 t277 x60_3) (rd_L2 t277 (wrap64 (x60_3 - 1)))).bind fun t296 => (if t296 = 2 then (laws_FnGrayBalanced.l0 k3 t277 (x12_3.set (t292 : Int).toNat true) t277 (t277.length : Int) (wrap64 (x60_3 + 1))) else (some false))) else (none)) else (none)) else (laws_FnGrayBalanced.l0 k3 t277 (x12_3.set (t292 : Int).toNat true) t277 (t277.length : Int) (wrap64 (x60_3 + 1)))) = some r := by rw [if_neg (show ¬ (false = true) by decide)] at H; exact H
                                        clear H
                                        have H := H1
                                        clear H1
                                        by_cases c40 : x60_3 > 0
                                        · rw [if_pos c40] at H
                                          have c40b0 : decide (0 < x60_3) = true := decide_eq_true c40
                                          clear c40
                                          obtain ⟨ji41, hji41⟩ : ∃ j_ : Int, (wrap64 (x60_3 - 1)) = j_ := ⟨_, rfl⟩
                                          replace H : (if 0 ≤ (ji41) then (if (ji41) < (t277.length : Int) then ((laws_tFar.f k3 (rd_L2 t277 x60_3) (rd_L2 t277 (ji41))).bind fun t296 => (if t296 = 2 then (laws_FnGrayBalanced.l0 k3 t277 (x12_3.set (t292 : Int).toNat true) t277 (t277.length : Int) (wrap64 (x60_3 + 1))) else (some false))) else (none)) else (none)) = some r := by first | (rw [hji41] at H; exact H) | (simp only [hji41] at H ⊢; exact H)
                                          (try rw [hji41] at A32)
                                          have hji41w : (IntKind.i64.wrap (x60_3 - 1)) = ji41 := (i64_w _).trans hji41
                                          by_cases c42 : 0 ≤ (ji41)
                                          · rw [if_pos c42] at H
                                            have c42b0 : decide (0 ≤ (ji41)) = true := decide_eq_true c42
                                            clear c42
                                            by_cases c43 : (ji41) < (t277.length : Int)
                                            · rw [if_pos c43] at H
                                              have c43b0 : decide ((ji41) < (t277.length : Int)) = true := decide_eq_true c43
                                              clear c43
                                              replace H := Option.bind_eq_some_iff.mp H
                                              obtain ⟨t296, A440, H⟩ := H
                                              replace H : (if t296 = 2 then (laws_FnGrayBalanced.l0 k3 t277 (x12_3.set (t292 : Int).toNat true) t277 (t277.length : Int) (wrap64 (x60_3 + 1))) else (some false)) = some r := H
                                              have A44 := Aside0.mk A440
                                              clear A440
                                              by_cases c45 : t296 = 2
                                              · rw [if_pos c45] at H
                                                have c45b0 : (t296 == 2) = true := beq_iff_eq.mpr c45
                                                have c45b1 : (t296 != 2) = false := bne_eq_false_iff_eq.mpr c45
                                                clear c45
                                                obtain ⟨y297, hy297⟩ : ∃ y_ : List Bool, y_ = (x12_3.set (t292 : Int).toNat true) := ⟨_, rfl⟩
                                                replace H : (laws_FnGrayBalanced.l0 k3 t277 y297 t277 (t277.length : Int) (wrap64 (x60_3 + 1))) = some r := by first | (rw [hy297]; with_reducible exact H) | (have H2_ := (Option.bind_some _ _).symm.trans H; rw [hy297]; with_reducible exact H2_) | (have H2_ := (Option.bind_some _ _).symm.trans H; with_reducible exact H2_) | with_reducible exact H | (rw [hy297]; exact H) | exact H
                                                have Ny297 := Aside0.mk hy297
                                                clear hy297
                                                have H' := Aside0.mk H
                                                clear H
                                                have p291 : 0 ≤ (x60_3 : Int) := of_decide_eq_true (by first | (with_reducible assumption) | assumption)
                                                have q291 : x60_3 < (t277.length : Int) := of_decide_eq_true (by first | (with_reducible assumption) | assumption)
                                                obtain ⟨ad291, A291_0, c291_0, e291, hx291_0, hl291_0, hi291_0⟩ := at_L2 (Kd.S_reads' HO_58.out).2.2 x60_3 p291 q291
                                                cases e291
                                                obtain ⟨ce291, hce291, hMe291, hcc291⟩ := Kd.S_get HO_58.out [] x60_3 p291 (by first | exact q291 | exact of_decide_eq_true (by first | (with_reducible assumption) | assumption) | (have e_ := (Kd.S_reads' HO_58.out).1; omega))
                                                obtain ⟨ve291_0, rfl, ge291_0⟩ := hMe291
                                                have hv291_0 := hcc291 0 _ rfl
                                                rw [Nat.add_zero, show ((Kd.slice 3 (Kd.int .i64))).sz = 1 from rfl, Nat.mul_one] at hv291_0
                                                replace hv291_0 := Option.some.inj (hv291_0.symm.trans hx291_0)
                                                rw [hv291_0] at ge291_0
                                                have HL291_0 := Aside0.mk (show Kd.R (Kd.int .i64) 3 _ _ _ _ (rd_L2 t277 x60_3) from ge291_0)
                                                clear hv291_0 ge291_0
                                                clear hcc291 hce291
                                                have HR291_0 := Aside0.mk hi291_0
                                                have HC291_0 := Aside0.mk hl291_0
                                                clear hi291_0 hl291_0
                                                replace p291 := eq_true p291
                                                replace q291 := eq_true q291
                                                go_wp2_with (first | ((with_reducible refine gate_callee (f := 21) rfl ?_); refine goesL_ (some 67) rfl rfl Try.func21 (by kernel_rfl) rfl #[.slice A291_0 (rd_L2 t277 x60_3).length c291_0] rfl (by (try simp only [List.map_toArray, List.map_cons, List.map_nil]); first | done | rfl | (simp only [List.length_drop, List.length_take]; rfl)) ?_; (with_reducible refine (impl_RankBalanced.calls k3 _ _ (rd_L2 t277 x60_3) t292 true _ ?side1 ?side2 A32.out).mono ?_); (case side1 => repeat (first | exact (by repeat (first | (with_reducible exact HR291_0.out) | (with_reducible refine Kd.C_alloc ?_ _) | (with_reducible refine Kd.C_drewN ?_ _) | (with_reducible refine Kd.C_drew ?_) | exact HR291_0.out)) | (with_reducible refine Kd.C_alloc ?_ _) | (with_reducible refine Kd.C_drewN ?_ _) | (with_reducible refine Kd.C_drew ?_))); (case side2 => exact HC291_0.out); rintro e w47 ⟨rfl, hb⟩; refine ⟨_, rfl, ?_⟩; have n0_ := Aside0.mk (Kd.S_below (by (with_reducible repeat (first | apply Kd.S_alloc | apply Kd.S_drewN | apply Kd.S_drew)); (first | exact HO_6.out | (have hz_ := HO_6.out; (try simp only [ob_] at hz_); (try simp only [ob_]); exact hz_))) hb); have n1_ := Aside0.mk (Kd.R_below (by (with_reducible repeat (first | apply Kd.R_alloc | apply Kd.R_drewN | apply Kd.R_drew)); (first | exact HO_12.out | (have hz_ := HO_12.out; (try simp only [ob_] at hz_); (try simp only [ob_]); exact hz_))) hb); have n2_ := Aside0.mk (Kd.S_below (by (with_reducible repeat (first | apply Kd.S_alloc | apply Kd.S_drewN | apply Kd.S_drew)); (first | exact HO_58.out | (have hz_ := HO_58.out; (try simp only [ob_] at hz_); (try simp only [ob_]); exact hz_))) hb); have n3_ := Aside0.mk (Kd.R_below (by (with_reducible repeat (first | apply Kd.R_alloc | apply Kd.R_drewN | apply Kd.R_drew)); exact HL291_0.out) hb); have n4_ := Aside0.mk (Kd.C_below (by repeat (first | (with_reducible exact HR291_0.out) | (with_reducible refine Kd.C_alloc ?_ _) | (with_reducible refine Kd.C_drewN ?_ _) | (with_reducible refine Kd.C_drew ?_) | exact HR291_0.out)) hb); have n5_ := Aside0.mk (below_step (by repeat (first | (with_reducible first | exact HB.out | apply below_alloc | apply pw_below_drewN | apply below_drew1) | exact HB.out)) hb); clear HO_6; clear HO_12; clear HO_58; clear HL291_0; clear HR291_0; clear HB; have HO_6 := n0_; have HO_12 := n1_; have HO_58 := n2_; have HL291_0 := n3_; have HR291_0 := n4_; have HB := n5_; clear n0_ n1_ n2_ n3_ n4_ n5_; (try clear hb); (try clear hb2); (try clear hk); (try clear hi); obtain ⟨Ao48, co48, eo48⟩ := Kd.R_slice HO_12.out; subst eo48; have p294 : 0 ≤ (t292 : Int) := of_decide_eq_true (by first | (with_reducible assumption) | assumption); have q294 : t292 < (x12_3.length : Int) := of_decide_eq_true (by first | (with_reducible assumption) | assumption); obtain ⟨ad294, e294, hx294_0⟩ := Kd.at_bool (Kd.R_reads' HO_12.out).2.2 t292 p294 q294; (try rw [← Nbq36.out] at hx294_0); cases e294; replace p294 := eq_true p294; replace q294 := eq_true q294; have p295 : 0 ≤ ((ji41) : Int) := of_decide_eq_true (by first | (with_reducible assumption) | assumption); have q295 : (ji41) < (t277.length : Int) := of_decide_eq_true (by first | (with_reducible assumption) | assumption); obtain ⟨ad295, A295_0, c295_0, e295, hx295_0, hl295_0, hi295_0⟩ := at_L2 (Kd.S_reads' HO_6.out).2.2 (ji41) p295 q295; obtain rfl : ad291 = ad295 := (by injection e295); obtain ⟨ce295, hce295, hMe295, hcc295⟩ := Kd.S_get HO_6.out [] (ji41) p295 (by first | exact q295 | exact of_decide_eq_true (by first | (with_reducible assumption) | assumption) | (have e_ := (Kd.S_reads' HO_6.out).1; omega)); obtain ⟨ve295_0, rfl, ge295_0⟩ := hMe295; have hv295_0 := hcc295 0 _ rfl; rw [Nat.add_zero, show ((Kd.slice 3 (Kd.int .i64))).sz = 1 from rfl, Nat.mul_one] at hv295_0; replace hv295_0 := Option.some.inj (hv295_0.symm.trans hx295_0); rw [hv295_0] at ge295_0; have HL295_0 := Aside0.mk (show Kd.R (Kd.int .i64) 3 _ _ _ _ (rd_L2 t277 (ji41)) from ge295_0); clear hv295_0 ge295_0; clear hcc295 hce295; have HR295_0 := Aside0.mk hi295_0; have HC295_0 := Aside0.mk hl295_0; clear hi295_0 hl295_0; replace p295 := eq_true p295; replace q295 := eq_true q295) | (go_at_call 22; (with_reducible refine (laws_tFar.calls k3 _ _ (rd_L2 t277 x60_3) _ _ (rd_L2 t277 (ji41)) t296 _ ?side1 ?side2 ?side3 ?side4 A44.out).mono ?_); (case side1 => repeat (first | exact (by repeat (first | (with_reducible exact HR291_0.out) | (with_reducible refine Kd.C_alloc ?_ _) | (with_reducible refine Kd.C_drewN ?_ _) | (with_reducible refine Kd.C_drew ?_) | exact HR291_0.out)) | (with_reducible refine Kd.C_alloc ?_ _) | (with_reducible refine Kd.C_drewN ?_ _) | (with_reducible refine Kd.C_drew ?_))); (case side2 => exact HC291_0.out); (case side3 => repeat (first | exact (by repeat (first | (with_reducible exact HR295_0.out) | (with_reducible refine Kd.C_alloc ?_ _) | (with_reducible refine Kd.C_drewN ?_ _) | (with_reducible refine Kd.C_drew ?_) | exact HR295_0.out)) | (with_reducible refine Kd.C_alloc ?_ _) | (with_reducible refine Kd.C_drewN ?_ _) | (with_reducible refine Kd.C_drew ?_))); (case side4 => exact HC295_0.out); rintro e w' ⟨rfl, ⟨nd, rfl⟩⟩; (try (rw [drewN_self w47]; generalize hq_ : World.drewN w47 _ = w47; have n0_ : Aside0 (Kd.R (Kd.int .i64) 3 w47 w.heap.size (fun k_ => some k_ ≠ (.slice (some ad291) t277.length co28 : Value).ownBlock) (.slice A291_0 (rd_L2 t277 x60_3).length c291_0) (rd_L2 t277 x60_3)) := ⟨by rw [← hq_]; exact (by (with_reducible repeat (first | apply Kd.R_alloc | apply Kd.R_drewN | apply Kd.R_drew)); exact Kd.R_mono HL291_0.out (fun _ hk => hk.2))⟩; have n1_ : Aside0 (Kd.R (Kd.int .i64) 3 w47 w.heap.size (fun k_ => some k_ ≠ (.slice (some ad291) t277.length co28 : Value).ownBlock) (.slice A295_0 (rd_L2 t277 (ji41)).length c295_0) (rd_L2 t277 (ji41))) := ⟨by rw [← hq_]; exact (by (with_reducible repeat (first | apply Kd.R_alloc | apply Kd.R_drewN | apply Kd.R_drew)); exact Kd.R_mono HL295_0.out (fun _ hk => hk.2))⟩; have n2_ : Aside0 (Kd.R Kd.bool 4 w47 w.heap.size (fun _ => True) (.slice (some ad294) x12_3.length co48) x12_3) := ⟨by rw [← hq_]; exact (by (with_reducible repeat (first | apply Kd.R_alloc | apply Kd.R_drewN | apply Kd.R_drew)); (first | exact HO_12.out | (have hz_ := HO_12.out; (try simp only [ob_] at hz_); (try simp only [ob_]); exact hz_)))⟩; have n3_ : Aside0 (Kd.S (Kd.slice 3 (Kd.int .i64)) 32 w47 w.heap.size (fun _ => True) (.slice (some ad291) t277.length co28) t277) := ⟨by rw [← hq_]; exact (by (with_reducible repeat (first | apply Kd.S_alloc | apply Kd.S_drewN | apply Kd.S_drew)); (first | exact HO_58.out | (have hz_ := HO_58.out; (try simp only [ob_] at hz_); (try simp only [ob_]); exact hz_)))⟩; have n4_ : Aside0 (Kd.S (Kd.slice 3 (Kd.int .i64)) 32 w47 w.heap.size (fun _ => True) (.slice (some ad291) t277.length co28) t277) := ⟨by rw [← hq_]; exact (by (with_reducible repeat (first | apply Kd.S_alloc | apply Kd.S_drewN | apply Kd.S_drew)); (first | exact HO_6.out | (have hz_ := HO_6.out; (try simp only [ob_] at hz_); (try simp only [ob_]); exact hz_)))⟩; have n5_ : Aside0 (Below w.heap.size w w47) := ⟨by rw [← hq_]; exact (by repeat (first | (with_reducible first | exact HB.out | apply below_alloc | apply pw_below_drewN | apply below_drew1) | exact HB.out))⟩; have n6_ : Aside0 (Kd.C (Kd.int .i64) w47 A291_0 (rd_L2 t277 x60_3).length (rd_L2 t277 x60_3)) := ⟨by rw [← hq_]; exact (by repeat (first | (with_reducible exact HR291_0.out) | (with_reducible refine Kd.C_alloc ?_ _) | (with_reducible refine Kd.C_drewN ?_ _) | (with_reducible refine Kd.C_drew ?_) | exact HR291_0.out))⟩; have n7_ : Aside0 (Kd.C (Kd.int .i64) w47 A295_0 (rd_L2 t277 (ji41)).length (rd_L2 t277 (ji41))) := ⟨by rw [← hq_]; exact (by repeat (first | (with_reducible exact HR295_0.out) | (with_reducible refine Kd.C_alloc ?_ _) | (with_reducible refine Kd.C_drewN ?_ _) | (with_reducible refine Kd.C_drew ?_) | exact HR295_0.out))⟩; clear HL291_0 HL295_0 HO_12 HO_58 HO_6 HB HR291_0 HR295_0 hq_; have HL291_0 := n0_; have HL295_0 := n1_; have HO_12 := n2_; have HO_58 := n3_; have HO_6 := n4_; have HB := n5_; have HR291_0 := n6_; have HR295_0 := n7_; clear n0_ n1_ n2_ n3_ n4_ n5_ n6_ n7_)); have p46 : 0 ≤ (t292 : Int) := of_decide_eq_true (by first | (with_reducible assumption) | assumption); have q46 : (t292 : Int) < ((x12_3.length : Int) : Int) := of_decide_eq_true (by first | (with_reducible assumption) | assumption); obtain ⟨go46, co46, eo46, gb46, gl46, cl46, HG46⟩ := Kd.R_form HO_12.out (by omega); (first | cases eo46 | (injection eo46 with ea_ en_ ec_; (first | subst ea_ | (injection ea_ with ea_; subst ea_)); subst ec_; clear en_)); have GB46 := Aside0.mk gb46; have GG46 := Aside0.mk HG46; clear gb46 gl46 HG46; (first | simp only [add_plain] at hx294_0 | skip); obtain ⟨hx46_0, hf46_0⟩ := Kd.R_celln false HO_12.out (t292 : Int) p46 q46; replace p46 := eq_true p46; replace q46 := eq_true q46; obtain ⟨hy49_, hz49_⟩ := Kd.R_celln false HO_12.out (t292 : Int) (of_decide_eq_true (by first | (with_reducible assumption) | assumption)) (of_decide_eq_true (by first | (with_reducible assumption) | assumption)); have HP49 := Kd.R_putg HO_12.out (t292 : Int) true) | ((with_reducible refine gate_store (t := 4) (p := 94) rfl ?_); refine store_event (t := 4) (p := 94) (v := ?vo_w50) (w1 := (w47.setCell ⟨go46, (t292 : Int).toNat, none⟩ (.bool true))) ?hg ?ho ?hn ?hr ?_; (case ho => rfl); (case hg => rfl); (case hn => rfl); (case hr => first | (go_simp; done) | (go_simp; rfl)); intro w50 hw; have hg : w47.grownBy w50 (some go46) := (by rw [hw]; exact HP49.2); have hp_ : Kd.R Kd.bool 4 w50 w.heap.size (fun _ => True) (.slice (some ⟨go46, 0, none⟩) x12_3.length co48) y297 := (by rw [hw, Ny297.out]; exact HP49.1); clear HP49; have n0_ := Aside0.mk (Kd.S_over' (v := (.slice (some ⟨go46, 0, none⟩) x12_3.length co48)) (by (with_reducible repeat (first | apply Kd.S_alloc | apply Kd.S_drewN | apply Kd.S_drew)); (first | exact HO_6.out | (have hz_ := HO_6.out; (try simp only [ob_] at hz_); (try simp only [ob_]); exact hz_))) (Kd.R_typed HO_12.out) (by decide) hg); have n1_ := Aside0.mk (hp_); have n2_ := Aside0.mk (Kd.S_over' (v := (.slice (some ⟨go46, 0, none⟩) x12_3.length co48)) (by (with_reducible repeat (first | apply Kd.S_alloc | apply Kd.S_drewN | apply Kd.S_drew)); (first | exact HO_58.out | (have hz_ := HO_58.out; (try simp only [ob_] at hz_); (try simp only [ob_]); exact hz_))) (Kd.R_typed HO_12.out) (by decide) hg); have n3_ := Aside0.mk (Kd.R_over' (v := (.slice (some ⟨go46, 0, none⟩) x12_3.length co48)) (by (with_reducible repeat (first | apply Kd.R_alloc | apply Kd.R_drewN | apply Kd.R_drew)); exact HL291_0.out) (Kd.R_typed HO_12.out) (by decide) hg); have n4_ := Aside0.mk (Kd.R_over' (v := (.slice (some ⟨go46, 0, none⟩) x12_3.length co48)) (by (with_reducible repeat (first | apply Kd.R_alloc | apply Kd.R_drewN | apply Kd.R_drew)); exact HL295_0.out) (Kd.R_typed HO_12.out) (by decide) hg); have n5_ := Aside0.mk ((by rw [hw]; exact below_set (HB.out) GB46.out : Below w.heap.size w w50)); clear HO_6; clear HO_12; clear HO_58; clear HL291_0; clear HL295_0; clear HB; have HO_6 := n0_; have HO_12 := n1_; have HO_58 := n2_; have HL291_0 := n3_; have HL295_0 := n4_; have HB := n5_; clear n0_ n1_ n2_ n3_ n4_ n5_; clear hg hw hp_))
                                                go_roundg k3
                                                case measure => have := HJ7.out; have := HJ18.out; have := HK3.out; omega
                                                case rel => exact ⟨(y297), (wrap64 (x60_3 + 1)), (by first | rfl | (simp; done) | (simp [*]; done)), H', ⟨by have := HJ7.out; have := HJ18.out; have := HK3.out; omega⟩, ⟨by (with_reducible repeat (first | apply Kd.S_alloc | apply Kd.S_drewN | apply Kd.S_drew)); (first | exact HO_6.out | (have hz_ := HO_6.out; (try simp only [ob_] at hz_); (try simp only [ob_]); exact hz_))⟩, ⟨by (with_reducible repeat (first | apply Kd.R_alloc | apply Kd.R_drewN | apply Kd.R_drew)); (first | exact HO_12.out | (have hz_ := HO_12.out; (try simp only [ob_] at hz_); (try simp only [ob_]); exact hz_))⟩, ⟨by (with_reducible repeat (first | apply Kd.S_alloc | apply Kd.S_drewN | apply Kd.S_drew)); (first | exact HO_58.out | (have hz_ := HO_58.out; (try simp only [ob_] at hz_); (try simp only [ob_]); exact hz_))⟩, ⟨by repeat (first | (with_reducible first | exact HB.out | apply below_alloc | apply pw_below_drewN | apply below_drew1) | exact HB.out)⟩⟩
                                              · rw [if_neg c45] at H
                                                have c45b0 : (t296 == 2) = false := beq_eq_false_iff_ne.mpr c45
                                                have c45b1 : (t296 != 2) = true := bne_iff_ne.mpr c45
                                                obtain rfl := Option.some.inj H
                                                have p291 : 0 ≤ (x60_3 : Int) := of_decide_eq_true (by first | (with_reducible assumption) | assumption)
                                                have q291 : x60_3 < (t277.length : Int) := of_decide_eq_true (by first | (with_reducible assumption) | assumption)
                                                obtain ⟨ad291, A291_0, c291_0, e291, hx291_0, hl291_0, hi291_0⟩ := at_L2 (Kd.S_reads' HO_58.out).2.2 x60_3 p291 q291
                                                cases e291
                                                obtain ⟨ce291, hce291, hMe291, hcc291⟩ := Kd.S_get HO_58.out [] x60_3 p291 (by first | exact q291 | exact of_decide_eq_true (by first | (with_reducible assumption) | assumption) | (have e_ := (Kd.S_reads' HO_58.out).1; omega))
                                                obtain ⟨ve291_0, rfl, ge291_0⟩ := hMe291
                                                have hv291_0 := hcc291 0 _ rfl
                                                rw [Nat.add_zero, show ((Kd.slice 3 (Kd.int .i64))).sz = 1 from rfl, Nat.mul_one] at hv291_0
                                                replace hv291_0 := Option.some.inj (hv291_0.symm.trans hx291_0)
                                                rw [hv291_0] at ge291_0
                                                have HL291_0 := Aside0.mk (show Kd.R (Kd.int .i64) 3 _ _ _ _ (rd_L2 t277 x60_3) from ge291_0)
                                                clear hv291_0 ge291_0
                                                clear hcc291 hce291
                                                have HR291_0 := Aside0.mk hi291_0
                                                have HC291_0 := Aside0.mk hl291_0
                                                clear hi291_0 hl291_0
                                                replace p291 := eq_true p291
                                                replace q291 := eq_true q291
                                                go_wp2_with (first | ((with_reducible refine gate_callee (f := 21) rfl ?_); refine goesL_ (some 67) rfl rfl Try.func21 (by kernel_rfl) rfl #[.slice A291_0 (rd_L2 t277 x60_3).length c291_0] rfl (by (try simp only [List.map_toArray, List.map_cons, List.map_nil]); first | done | rfl | (simp only [List.length_drop, List.length_take]; rfl)) ?_; (with_reducible refine (impl_RankBalanced.calls k3 _ _ (rd_L2 t277 x60_3) t292 true _ ?side1 ?side2 A32.out).mono ?_); (case side1 => repeat (first | exact (by repeat (first | (with_reducible exact HR291_0.out) | (with_reducible refine Kd.C_alloc ?_ _) | (with_reducible refine Kd.C_drewN ?_ _) | (with_reducible refine Kd.C_drew ?_) | exact HR291_0.out)) | (with_reducible refine Kd.C_alloc ?_ _) | (with_reducible refine Kd.C_drewN ?_ _) | (with_reducible refine Kd.C_drew ?_))); (case side2 => exact HC291_0.out); rintro e w51 ⟨rfl, hb⟩; refine ⟨_, rfl, ?_⟩; have n0_ := Aside0.mk (Kd.S_below (by (with_reducible repeat (first | apply Kd.S_alloc | apply Kd.S_drewN | apply Kd.S_drew)); (first | exact HO_6.out | (have hz_ := HO_6.out; (try simp only [ob_] at hz_); (try simp only [ob_]); exact hz_))) hb); have n1_ := Aside0.mk (Kd.R_below (by (with_reducible repeat (first | apply Kd.R_alloc | apply Kd.R_drewN | apply Kd.R_drew)); (first | exact HO_12.out | (have hz_ := HO_12.out; (try simp only [ob_] at hz_); (try simp only [ob_]); exact hz_))) hb); have n2_ := Aside0.mk (Kd.S_below (by (with_reducible repeat (first | apply Kd.S_alloc | apply Kd.S_drewN | apply Kd.S_drew)); (first | exact HO_58.out | (have hz_ := HO_58.out; (try simp only [ob_] at hz_); (try simp only [ob_]); exact hz_))) hb); have n3_ := Aside0.mk (Kd.R_below (by (with_reducible repeat (first | apply Kd.R_alloc | apply Kd.R_drewN | apply Kd.R_drew)); exact HL291_0.out) hb); have n4_ := Aside0.mk (Kd.C_below (by repeat (first | (with_reducible exact HR291_0.out) | (with_reducible refine Kd.C_alloc ?_ _) | (with_reducible refine Kd.C_drewN ?_ _) | (with_reducible refine Kd.C_drew ?_) | exact HR291_0.out)) hb); have n5_ := Aside0.mk (below_step (by repeat (first | (with_reducible first | exact HB.out | apply below_alloc | apply pw_below_drewN | apply below_drew1) | exact HB.out)) hb); clear HO_6; clear HO_12; clear HO_58; clear HL291_0; clear HR291_0; clear HB; have HO_6 := n0_; have HO_12 := n1_; have HO_58 := n2_; have HL291_0 := n3_; have HR291_0 := n4_; have HB := n5_; clear n0_ n1_ n2_ n3_ n4_ n5_; (try clear hb); (try clear hb2); (try clear hk); (try clear hi); obtain ⟨Ao52, co52, eo52⟩ := Kd.R_slice HO_12.out; subst eo52; have p294 : 0 ≤ (t292 : Int) := of_decide_eq_true (by first | (with_reducible assumption) | assumption); have q294 : t292 < (x12_3.length : Int) := of_decide_eq_true (by first | (with_reducible assumption) | assumption); obtain ⟨ad294, e294, hx294_0⟩ := Kd.at_bool (Kd.R_reads' HO_12.out).2.2 t292 p294 q294; (try rw [← Nbq36.out] at hx294_0); cases e294; replace p294 := eq_true p294; replace q294 := eq_true q294; have p295 : 0 ≤ ((ji41) : Int) := of_decide_eq_true (by first | (with_reducible assumption) | assumption); have q295 : (ji41) < (t277.length : Int) := of_decide_eq_true (by first | (with_reducible assumption) | assumption); obtain ⟨ad295, A295_0, c295_0, e295, hx295_0, hl295_0, hi295_0⟩ := at_L2 (Kd.S_reads' HO_6.out).2.2 (ji41) p295 q295; obtain rfl : ad291 = ad295 := (by injection e295); obtain ⟨ce295, hce295, hMe295, hcc295⟩ := Kd.S_get HO_6.out [] (ji41) p295 (by first | exact q295 | exact of_decide_eq_true (by first | (with_reducible assumption) | assumption) | (have e_ := (Kd.S_reads' HO_6.out).1; omega)); obtain ⟨ve295_0, rfl, ge295_0⟩ := hMe295; have hv295_0 := hcc295 0 _ rfl; rw [Nat.add_zero, show ((Kd.slice 3 (Kd.int .i64))).sz = 1 from rfl, Nat.mul_one] at hv295_0; replace hv295_0 := Option.some.inj (hv295_0.symm.trans hx295_0); rw [hv295_0] at ge295_0; have HL295_0 := Aside0.mk (show Kd.R (Kd.int .i64) 3 _ _ _ _ (rd_L2 t277 (ji41)) from ge295_0); clear hv295_0 ge295_0; clear hcc295 hce295; have HR295_0 := Aside0.mk hi295_0; have HC295_0 := Aside0.mk hl295_0; clear hi295_0 hl295_0; replace p295 := eq_true p295; replace q295 := eq_true q295) | (go_at_call 22; (with_reducible refine (laws_tFar.calls k3 _ _ (rd_L2 t277 x60_3) _ _ (rd_L2 t277 (ji41)) t296 _ ?side1 ?side2 ?side3 ?side4 A44.out).mono ?_); (case side1 => repeat (first | exact (by repeat (first | (with_reducible exact HR291_0.out) | (with_reducible refine Kd.C_alloc ?_ _) | (with_reducible refine Kd.C_drewN ?_ _) | (with_reducible refine Kd.C_drew ?_) | exact HR291_0.out)) | (with_reducible refine Kd.C_alloc ?_ _) | (with_reducible refine Kd.C_drewN ?_ _) | (with_reducible refine Kd.C_drew ?_))); (case side2 => exact HC291_0.out); (case side3 => repeat (first | exact (by repeat (first | (with_reducible exact HR295_0.out) | (with_reducible refine Kd.C_alloc ?_ _) | (with_reducible refine Kd.C_drewN ?_ _) | (with_reducible refine Kd.C_drew ?_) | exact HR295_0.out)) | (with_reducible refine Kd.C_alloc ?_ _) | (with_reducible refine Kd.C_drewN ?_ _) | (with_reducible refine Kd.C_drew ?_))); (case side4 => exact HC295_0.out); rintro e w' ⟨rfl, ⟨nd, rfl⟩⟩))
                                                go_ret
                                                exact ⟨by first | rfl | (simp [errW_none, errW_some] <;> rfl) | (simp only [← hji41]; first | rfl | (simp [errW_none, errW_some] <;> rfl)) | (simp [*, errW_none, errW_some] <;> rfl), by repeat (first | (with_reducible first | exact HB.out | apply below_alloc | apply pw_below_drewN | apply below_drew1) | exact HB.out)⟩
                                            · rw [if_neg c43] at H
                                              exact absurd H (by simp)
                                          · rw [if_neg c42] at H
                                            exact absurd H (by simp)
                                        · rw [if_neg c40] at H
                                          have c40b0 : decide (0 < x60_3) = false := decide_eq_false c40
                                          clear c40
                                          obtain ⟨y298, hy298⟩ : ∃ y_ : List Bool, y_ = (x12_3.set (t292 : Int).toNat true) := ⟨_, rfl⟩
                                          replace H : (laws_FnGrayBalanced.l0 k3 t277 y298 t277 (t277.length : Int) (wrap64 (x60_3 + 1))) = some r := by first | (rw [hy298]; with_reducible exact H) | (have H2_ := (Option.bind_some _ _).symm.trans H; rw [hy298]; with_reducible exact H2_) | (have H2_ := (Option.bind_some _ _).symm.trans H; with_reducible exact H2_) | with_reducible exact H | (rw [hy298]; exact H) | exact H
                                          have Ny298 := Aside0.mk hy298
                                          clear hy298
                                          have H' := Aside0.mk H
                                          clear H
                                          have p291 : 0 ≤ (x60_3 : Int) := of_decide_eq_true (by first | (with_reducible assumption) | assumption)
                                          have q291 : x60_3 < (t277.length : Int) := of_decide_eq_true (by first | (with_reducible assumption) | assumption)
                                          obtain ⟨ad291, A291_0, c291_0, e291, hx291_0, hl291_0, hi291_0⟩ := at_L2 (Kd.S_reads' HO_58.out).2.2 x60_3 p291 q291
                                          cases e291
                                          obtain ⟨ce291, hce291, hMe291, hcc291⟩ := Kd.S_get HO_58.out [] x60_3 p291 (by first | exact q291 | exact of_decide_eq_true (by first | (with_reducible assumption) | assumption) | (have e_ := (Kd.S_reads' HO_58.out).1; omega))
                                          obtain ⟨ve291_0, rfl, ge291_0⟩ := hMe291
                                          have hv291_0 := hcc291 0 _ rfl
                                          rw [Nat.add_zero, show ((Kd.slice 3 (Kd.int .i64))).sz = 1 from rfl, Nat.mul_one] at hv291_0
                                          replace hv291_0 := Option.some.inj (hv291_0.symm.trans hx291_0)
                                          rw [hv291_0] at ge291_0
                                          have HL291_0 := Aside0.mk (show Kd.R (Kd.int .i64) 3 _ _ _ _ (rd_L2 t277 x60_3) from ge291_0)
                                          clear hv291_0 ge291_0
                                          clear hcc291 hce291
                                          have HR291_0 := Aside0.mk hi291_0
                                          have HC291_0 := Aside0.mk hl291_0
                                          clear hi291_0 hl291_0
                                          replace p291 := eq_true p291
                                          replace q291 := eq_true q291
                                          go_wp2_with (first | ((with_reducible refine gate_callee (f := 21) rfl ?_); refine goesL_ (some 67) rfl rfl Try.func21 (by kernel_rfl) rfl #[.slice A291_0 (rd_L2 t277 x60_3).length c291_0] rfl (by (try simp only [List.map_toArray, List.map_cons, List.map_nil]); first | done | rfl | (simp only [List.length_drop, List.length_take]; rfl)) ?_; (with_reducible refine (impl_RankBalanced.calls k3 _ _ (rd_L2 t277 x60_3) t292 true _ ?side1 ?side2 A32.out).mono ?_); (case side1 => repeat (first | exact (by repeat (first | (with_reducible exact HR291_0.out) | (with_reducible refine Kd.C_alloc ?_ _) | (with_reducible refine Kd.C_drewN ?_ _) | (with_reducible refine Kd.C_drew ?_) | exact HR291_0.out)) | (with_reducible refine Kd.C_alloc ?_ _) | (with_reducible refine Kd.C_drewN ?_ _) | (with_reducible refine Kd.C_drew ?_))); (case side2 => exact HC291_0.out); rintro e w54 ⟨rfl, hb⟩; refine ⟨_, rfl, ?_⟩; have n0_ := Aside0.mk (Kd.S_below (by (with_reducible repeat (first | apply Kd.S_alloc | apply Kd.S_drewN | apply Kd.S_drew)); (first | exact HO_6.out | (have hz_ := HO_6.out; (try simp only [ob_] at hz_); (try simp only [ob_]); exact hz_))) hb); have n1_ := Aside0.mk (Kd.R_below (by (with_reducible repeat (first | apply Kd.R_alloc | apply Kd.R_drewN | apply Kd.R_drew)); (first | exact HO_12.out | (have hz_ := HO_12.out; (try simp only [ob_] at hz_); (try simp only [ob_]); exact hz_))) hb); have n2_ := Aside0.mk (Kd.S_below (by (with_reducible repeat (first | apply Kd.S_alloc | apply Kd.S_drewN | apply Kd.S_drew)); (first | exact HO_58.out | (have hz_ := HO_58.out; (try simp only [ob_] at hz_); (try simp only [ob_]); exact hz_))) hb); have n3_ := Aside0.mk (Kd.R_below (by (with_reducible repeat (first | apply Kd.R_alloc | apply Kd.R_drewN | apply Kd.R_drew)); exact HL291_0.out) hb); have n4_ := Aside0.mk (Kd.C_below (by repeat (first | (with_reducible exact HR291_0.out) | (with_reducible refine Kd.C_alloc ?_ _) | (with_reducible refine Kd.C_drewN ?_ _) | (with_reducible refine Kd.C_drew ?_) | exact HR291_0.out)) hb); have n5_ := Aside0.mk (below_step (by repeat (first | (with_reducible first | exact HB.out | apply below_alloc | apply pw_below_drewN | apply below_drew1) | exact HB.out)) hb); clear HO_6; clear HO_12; clear HO_58; clear HL291_0; clear HR291_0; clear HB; have HO_6 := n0_; have HO_12 := n1_; have HO_58 := n2_; have HL291_0 := n3_; have HR291_0 := n4_; have HB := n5_; clear n0_ n1_ n2_ n3_ n4_ n5_; (try clear hb); (try clear hb2); (try clear hk); (try clear hi); obtain ⟨Ao55, co55, eo55⟩ := Kd.R_slice HO_12.out; subst eo55; have p294 : 0 ≤ (t292 : Int) := of_decide_eq_true (by first | (with_reducible assumption) | assumption); have q294 : t292 < (x12_3.length : Int) := of_decide_eq_true (by first | (with_reducible assumption) | assumption); obtain ⟨ad294, e294, hx294_0⟩ := Kd.at_bool (Kd.R_reads' HO_12.out).2.2 t292 p294 q294; (try rw [← Nbq36.out] at hx294_0); cases e294; replace p294 := eq_true p294; replace q294 := eq_true q294; have p53 : 0 ≤ (t292 : Int) := of_decide_eq_true (by first | (with_reducible assumption) | assumption); have q53 : (t292 : Int) < ((x12_3.length : Int) : Int) := of_decide_eq_true (by first | (with_reducible assumption) | assumption); obtain ⟨go53, co53, eo53, gb53, gl53, cl53, HG53⟩ := Kd.R_form HO_12.out (by omega); (first | cases eo53 | (injection eo53 with ea_ en_ ec_; (first | subst ea_ | (injection ea_ with ea_; subst ea_)); subst ec_; clear en_)); have GB53 := Aside0.mk gb53; have GG53 := Aside0.mk HG53; clear gb53 gl53 HG53; (first | simp only [add_plain] at hx294_0 | skip); obtain ⟨hx53_0, hf53_0⟩ := Kd.R_celln false HO_12.out (t292 : Int) p53 q53; replace p53 := eq_true p53; replace q53 := eq_true q53; obtain ⟨hy56_, hz56_⟩ := Kd.R_celln false HO_12.out (t292 : Int) (of_decide_eq_true (by first | (with_reducible assumption) | assumption)) (of_decide_eq_true (by first | (with_reducible assumption) | assumption)); have HP56 := Kd.R_putg HO_12.out (t292 : Int) true) | ((with_reducible refine gate_store (t := 4) (p := 94) rfl ?_); refine store_event (t := 4) (p := 94) (v := ?vo_w57) (w1 := (w54.setCell ⟨go53, (t292 : Int).toNat, none⟩ (.bool true))) ?hg ?ho ?hn ?hr ?_; (case ho => rfl); (case hg => rfl); (case hn => rfl); (case hr => first | (go_simp; done) | (go_simp; rfl)); intro w57 hw; have hg : w54.grownBy w57 (some go53) := (by rw [hw]; exact HP56.2); have hp_ : Kd.R Kd.bool 4 w57 w.heap.size (fun _ => True) (.slice (some ⟨go53, 0, none⟩) x12_3.length co55) y298 := (by rw [hw, Ny298.out]; exact HP56.1); clear HP56; have n0_ := Aside0.mk (Kd.S_over' (v := (.slice (some ⟨go53, 0, none⟩) x12_3.length co55)) (by (with_reducible repeat (first | apply Kd.S_alloc | apply Kd.S_drewN | apply Kd.S_drew)); (first | exact HO_6.out | (have hz_ := HO_6.out; (try simp only [ob_] at hz_); (try simp only [ob_]); exact hz_))) (Kd.R_typed HO_12.out) (by decide) hg); have n1_ := Aside0.mk (hp_); have n2_ := Aside0.mk (Kd.S_over' (v := (.slice (some ⟨go53, 0, none⟩) x12_3.length co55)) (by (with_reducible repeat (first | apply Kd.S_alloc | apply Kd.S_drewN | apply Kd.S_drew)); (first | exact HO_58.out | (have hz_ := HO_58.out; (try simp only [ob_] at hz_); (try simp only [ob_]); exact hz_))) (Kd.R_typed HO_12.out) (by decide) hg); have n3_ := Aside0.mk (Kd.R_over' (v := (.slice (some ⟨go53, 0, none⟩) x12_3.length co55)) (by (with_reducible repeat (first | apply Kd.R_alloc | apply Kd.R_drewN | apply Kd.R_drew)); exact HL291_0.out) (Kd.R_typed HO_12.out) (by decide) hg); have n4_ := Aside0.mk ((by rw [hw]; exact below_set (HB.out) GB53.out : Below w.heap.size w w57)); clear HO_6; clear HO_12; clear HO_58; clear HL291_0; clear HB; have HO_6 := n0_; have HO_12 := n1_; have HO_58 := n2_; have HL291_0 := n3_; have HB := n4_; clear n0_ n1_ n2_ n3_ n4_; clear hg hw hp_))
                                          go_roundg k3
                                          case measure => have := HJ7.out; have := HJ18.out; have := HK3.out; omega
                                          case rel => exact ⟨(y298), (wrap64 (x60_3 + 1)), (by first | rfl | (simp; done) | (simp [*]; done)), H', ⟨by have := HJ7.out; have := HJ18.out; have := HK3.out; omega⟩, ⟨by (with_reducible repeat (first | apply Kd.S_alloc | apply Kd.S_drewN | apply Kd.S_drew)); (first | exact HO_6.out | (have hz_ := HO_6.out; (try simp only [ob_] at hz_); (try simp only [ob_]); exact hz_))⟩, ⟨by (with_reducible repeat (first | apply Kd.R_alloc | apply Kd.R_drewN | apply Kd.R_drew)); (first | exact HO_12.out | (have hz_ := HO_12.out; (try simp only [ob_] at hz_); (try simp only [ob_]); exact hz_))⟩, ⟨by (with_reducible repeat (first | apply Kd.S_alloc | apply Kd.S_drewN | apply Kd.S_drew)); (first | exact HO_58.out | (have hz_ := HO_58.out; (try simp only [ob_] at hz_); (try simp only [ob_]); exact hz_))⟩, ⟨by repeat (first | (with_reducible first | exact HB.out | apply below_alloc | apply pw_below_drewN | apply below_drew1) | exact HB.out)⟩⟩
                                    · rw [if_neg c35] at H
                                      exact absurd H (by simp)
                                  · rw [if_neg c34] at H
                                    exact absurd H (by simp)
                                · replace c33 := Bool.eq_false_iff.mpr c33
                                  subst c33
                                  have H1 : (some false) = some r := by rw [if_neg (show ¬ (false = true) by decide)] at H; exact H
                                  clear H
                                  have H := H1
                                  clear H1
                                  obtain rfl := Option.some.inj H
                                  have p291 : 0 ≤ (x60_3 : Int) := of_decide_eq_true (by first | (with_reducible assumption) | assumption)
                                  have q291 : x60_3 < (t277.length : Int) := of_decide_eq_true (by first | (with_reducible assumption) | assumption)
                                  obtain ⟨ad291, A291_0, c291_0, e291, hx291_0, hl291_0, hi291_0⟩ := at_L2 (Kd.S_reads' HO_58.out).2.2 x60_3 p291 q291
                                  cases e291
                                  obtain ⟨ce291, hce291, hMe291, hcc291⟩ := Kd.S_get HO_58.out [] x60_3 p291 (by first | exact q291 | exact of_decide_eq_true (by first | (with_reducible assumption) | assumption) | (have e_ := (Kd.S_reads' HO_58.out).1; omega))
                                  obtain ⟨ve291_0, rfl, ge291_0⟩ := hMe291
                                  have hv291_0 := hcc291 0 _ rfl
                                  rw [Nat.add_zero, show ((Kd.slice 3 (Kd.int .i64))).sz = 1 from rfl, Nat.mul_one] at hv291_0
                                  replace hv291_0 := Option.some.inj (hv291_0.symm.trans hx291_0)
                                  rw [hv291_0] at ge291_0
                                  have HL291_0 := Aside0.mk (show Kd.R (Kd.int .i64) 3 _ _ _ _ (rd_L2 t277 x60_3) from ge291_0)
                                  clear hv291_0 ge291_0
                                  clear hcc291 hce291
                                  have HR291_0 := Aside0.mk hi291_0
                                  have HC291_0 := Aside0.mk hl291_0
                                  clear hi291_0 hl291_0
                                  replace p291 := eq_true p291
                                  replace q291 := eq_true q291
                                  go_wp2_with (first | ((with_reducible refine gate_callee (f := 21) rfl ?_); refine goesL_ (some 67) rfl rfl Try.func21 (by kernel_rfl) rfl #[.slice A291_0 (rd_L2 t277 x60_3).length c291_0] rfl (by (try simp only [List.map_toArray, List.map_cons, List.map_nil]); first | done | rfl | (simp only [List.length_drop, List.length_take]; rfl)) ?_; (with_reducible refine (impl_RankBalanced.calls k3 _ _ (rd_L2 t277 x60_3) t292 false _ ?side1 ?side2 A32.out).mono ?_); (case side1 => repeat (first | exact (by repeat (first | (with_reducible exact HR291_0.out) | (with_reducible refine Kd.C_alloc ?_ _) | (with_reducible refine Kd.C_drewN ?_ _) | (with_reducible refine Kd.C_drew ?_) | exact HR291_0.out)) | (with_reducible refine Kd.C_alloc ?_ _) | (with_reducible refine Kd.C_drewN ?_ _) | (with_reducible refine Kd.C_drew ?_))); (case side2 => exact HC291_0.out); rintro e w58 ⟨rfl, hb⟩; refine ⟨_, rfl, ?_⟩; have n0_ := Aside0.mk (Kd.S_below (by (with_reducible repeat (first | apply Kd.S_alloc | apply Kd.S_drewN | apply Kd.S_drew)); (first | exact HO_6.out | (have hz_ := HO_6.out; (try simp only [ob_] at hz_); (try simp only [ob_]); exact hz_))) hb); have n1_ := Aside0.mk (Kd.R_below (by (with_reducible repeat (first | apply Kd.R_alloc | apply Kd.R_drewN | apply Kd.R_drew)); (first | exact HO_12.out | (have hz_ := HO_12.out; (try simp only [ob_] at hz_); (try simp only [ob_]); exact hz_))) hb); have n2_ := Aside0.mk (Kd.S_below (by (with_reducible repeat (first | apply Kd.S_alloc | apply Kd.S_drewN | apply Kd.S_drew)); (first | exact HO_58.out | (have hz_ := HO_58.out; (try simp only [ob_] at hz_); (try simp only [ob_]); exact hz_))) hb); have n3_ := Aside0.mk (Kd.R_below (by (with_reducible repeat (first | apply Kd.R_alloc | apply Kd.R_drewN | apply Kd.R_drew)); exact HL291_0.out) hb); have n4_ := Aside0.mk (Kd.C_below (by repeat (first | (with_reducible exact HR291_0.out) | (with_reducible refine Kd.C_alloc ?_ _) | (with_reducible refine Kd.C_drewN ?_ _) | (with_reducible refine Kd.C_drew ?_) | exact HR291_0.out)) hb); have n5_ := Aside0.mk (below_step (by repeat (first | (with_reducible first | exact HB.out | apply below_alloc | apply pw_below_drewN | apply below_drew1) | exact HB.out)) hb); clear HO_6; clear HO_12; clear HO_58; clear HL291_0; clear HR291_0; clear HB; have HO_6 := n0_; have HO_12 := n1_; have HO_58 := n2_; have HL291_0 := n3_; have HR291_0 := n4_; have HB := n5_; clear n0_ n1_ n2_ n3_ n4_ n5_; (try clear hb); (try clear hb2); (try clear hk); (try clear hi)))
                                  go_ret
                                  exact ⟨by first | rfl | (simp [errW_none, errW_some] <;> rfl) | (simp [*, errW_none, errW_some] <;> rfl), by repeat (first | (with_reducible first | exact HB.out | apply below_alloc | apply pw_below_drewN | apply below_drew1) | exact HB.out)⟩
                              · rw [if_neg c31] at H
                                exact absurd H (by simp)
                            · rw [if_neg c30] at H
                              exact absurd H (by simp)
                          · rw [if_neg c29] at H
                            have c29b0 : decide (x60_3 < (t277.length : Int)) = false := decide_eq_false c29
                            clear c29
                            obtain rfl := Option.some.inj H
                            go_wp2
                            go_ret
                            exact ⟨by first | rfl | (simp [errW_none, errW_some] <;> rfl) | (simp [*, errW_none, errW_some] <;> rfl), by repeat (first | (with_reducible first | exact HB.out | apply below_alloc | apply pw_below_drewN | apply below_drew1) | exact HB.out)⟩
                    · rw [if_neg c25] at H
                      exact absurd H (by simp)
                  · rw [if_neg c24] at H
                    exact absurd H (by simp)
          · replace c17 := Bool.eq_false_iff.mpr c17
            subst c17
            have H1 : (some true) = some r := by rw [if_neg (show ¬ (false = true) by decide)] at H; exact H
            clear H
            have H := H1
            clear H1
            obtain rfl := Option.some.inj H
            go_wp2
            go_ret
            exact ⟨by first | rfl | (simp [errW_none, errW_some] <;> rfl) | (simp [*, errW_none, errW_some] <;> rfl), by repeat (first | (with_reducible first | exact HB.out | apply below_alloc | apply pw_below_drewN | apply below_drew1) | exact HB.out)⟩

/-- THE ONE PURE STATEMENT of laws_FnGrayBalanced: yours. -/
def laws_FnGrayBalanced.Pure : Prop := ∀ (l0 : List Int) (l1 : List Int), l0.length ≤ maxLen → l0.length * 1 ≤ 140737488351232 → (∀ x ∈ l0, (Lit.int .u8 x).wf = true) → l1.length ≤ maxLen → l1.length * 1 ≤ 140737488351232 → (∀ x ∈ l1, (Lit.int .u8 x).wf = true) → ∃ k, laws_FnGrayBalanced.f k l0 l1 = some true
theorem laws_FnGrayBalanced.walk (P : laws_FnGrayBalanced.Pure) (a0 : Option Addr) (len0 cap0 : Nat) (z0 : List Int) (a1 : Option Addr) (len1 cap1 : Nat) (z1 : List Int) (w : World) (w0 : (a0 = none ∧ len0 = 0 ∧ cap0 = 0 ∧ z0 = []) ∨ ∃ x, a0 = some x ∧ len0 ≤ cap0 ∧ cap0 ≤ maxLen ∧ z0.length = cap0 ∧ (∀ i, i < z0.length → w.cell? (x.add i) = some (.int .u8 (z0.getD i 0))) ∧ ∀ n ∈ z0, (Lit.int .u8 n).wf = true) (y0 : len0 * 1 ≤ 140737488351232) (w1 : (a1 = none ∧ len1 = 0 ∧ cap1 = 0 ∧ z1 = []) ∨ ∃ x, a1 = some x ∧ len1 ≤ cap1 ∧ cap1 ≤ maxLen ∧ z1.length = cap1 ∧ (∀ i, i < z1.length → w.cell? (x.add i) = some (.int .u8 (z1.getD i 0))) ∧ ∀ n ∈ z1, (Lit.int .u8 n).wf = true) (y1 : len1 * 1 ≤ 140737488351232) :
    Calls Try.prog 3 #[.slice a0 len0 cap0, .slice a1 len1 cap1] w fun e w' => e = .returned (.bool true) ∧ Below w.heap.size w w' := by
  obtain ⟨l0, rfl, hr0, hm0, hw0, hc0⟩ := ReadsInt.ofRowC w0
  obtain ⟨l1, rfl, hr1, hm1, hw1, hc1⟩ := ReadsInt.ofRowC w1
  obtain ⟨k, h⟩ := P l0 l1 hm0 y0 hw0 hm1 y1 hw1
  refine (laws_FnGrayBalanced.calls k _ _ l0 _ _ l1 true w (Kd.C_of_reads (d := (0 : Int)) (h1 := fun _ => rfl) hr0) hc0 (Kd.C_of_reads (d := (0 : Int)) (h1 := fun _ => rfl) hr1) hc1 h).mono ?_
  rintro e w' ⟨rfl, hd⟩
  exact ⟨rfl, hd⟩

end Go.Proofs.Ytmcmglclgdgdnaa.HFnGrayBalanced
