-- PRINTED BY print.sh 35421559b90ae4d0a3588c463048766b98c2df88dd9212a6774a882060cdf62d: not written by this session
import Derived.Test.YtaaoeaojimjikaaPFnExactCountBraceletsx0
import Derived.Test.YtaaoeaojimjikaaPFnExactCountBraceletsx1
namespace Go.Proofs.Ytaaoeaojimjikaa.PFnExactCountBracelets
open Go.RowKit Go.Proofs.YtaaoeaojimjikaaW.PrintWords Go.Proofs.YtaaoeaojimjikaaW.PrintLast Go.Proofs.YtaaoeaojimjikaaW.PrintMore
attribute [local go_sem] max2_int min2_int max_two min_two max_three min_three max_four min_four   -- for this text's walks alone
set_option linter.unusedVariables false
set_option linter.unusedSimpArgs false

/-! ### impl_CountBracelets: function 38 -/
def impl_CountBracelets.f (k : Nat) (a0 : Int) (a1 : Int) : Option (Int × Bool) := (impl_isOver.f a0 a1).bind fun t117 => (if t117 = true then ((impl_power.f k a1 (wrap64 (Int.tdiv a0 2))).bind fun t118 => ((impl_power.f k a1 (wrap64 (Int.tdiv (wrap64 (a0 + 2)) 2))).bind fun t119 => (if (Int.tmod a0 2) = 1 then ((impl_power.f k a1 (wrap64 (Int.tdiv (wrap64 (a0 + 1)) 2))).bind fun t120 => ((impl_countNecklaces.f k a0 a1).bind fun t121 => (some (wrap64 (Int.tdiv (wrap64 (t121 + t120)) 2), true)))) else ((impl_countNecklaces.f k a0 a1).bind fun t122 => (some (wrap64 (Int.tdiv (wrap64 (t122 + (wrap64 (Int.tdiv (wrap64 (t118 + t119)) 2)))) 2), true)))))) else (some (0, false)))
theorem impl_CountBracelets.mono : ∀ a0 a1 k, LeO (impl_CountBracelets.f k a0 a1) (impl_CountBracelets.f (k + 1) a0 a1) := by
  intro a0 a1 k
  unfold impl_CountBracelets.f
  repeat' first
      | (with_reducible exact impl_countNecklaces.mono _ _ _)
      | (with_reducible exact impl_power.mono _ _ _)
      | (with_reducible exact LeO.refl _)
      | (with_reducible exact LeO.none _)
      | (with_reducible refine LeO.ite ?_ ?_)
      | (with_reducible refine LeO.bind ?_ (fun _ => ?_))
      | exact impl_countNecklaces.mono _ _ _
      | exact impl_power.mono _ _ _
      | exact LeO.none _
      | refine LeO.ite ?_ ?_
      | refine LeO.bind ?_ (fun _ => ?_)
set_option maxHeartbeats 8000000 in
set_option maxRecDepth 100000 in
theorem impl_CountBracelets.calls (k : Nat) (a0 : Int) (a1 : Int) (r1 : Int) (r2 : Bool) (w : World) (h : impl_CountBracelets.f k a0 a1 = some (r1, r2)) :
    Calls Try.prog 38 #[.int .i64 a0, .int .i64 a1] w fun e w' => e = .returned (.tuple #[.int .i64 r1, .bool r2]) ∧ Drawn0 w w' := by
  have H : ((impl_isOver.f a0 a1).bind fun t117 => (if t117 = true then ((impl_power.f k a1 (wrap64 (Int.tdiv a0 2))).bind fun t118 => ((impl_power.f k a1 (wrap64 (Int.tdiv (wrap64 (a0 + 2)) 2))).bind fun t119 => (if (Int.tmod a0 2) = 1 then ((impl_power.f k a1 (wrap64 (Int.tdiv (wrap64 (a0 + 1)) 2))).bind fun t120 => ((impl_countNecklaces.f k a0 a1).bind fun t121 => (some (wrap64 (Int.tdiv (wrap64 (t121 + t120)) 2), true)))) else ((impl_countNecklaces.f k a0 a1).bind fun t122 => (some (wrap64 (Int.tdiv (wrap64 (t122 + (wrap64 (Int.tdiv (wrap64 (t118 + t119)) 2)))) 2), true)))))) else (some (0, false)))) = some (r1, r2) := h
  clear h
  replace H := Option.bind_eq_some_iff.mp H
  obtain ⟨t117, A30, H⟩ := H
  replace H : (if t117 = true then ((impl_power.f k a1 (wrap64 (Int.tdiv a0 2))).bind fun t118 => ((impl_power.f k a1 (wrap64 (Int.tdiv (wrap64 (a0 + 2)) 2))).bind fun t119 => (if (Int.tmod a0 2) = 1 then ((impl_power.f k a1 (wrap64 (Int.tdiv (wrap64 (a0 + 1)) 2))).bind fun t120 => ((impl_countNecklaces.f k a0 a1).bind fun t121 => (some (wrap64 (Int.tdiv (wrap64 (t121 + t120)) 2), true)))) else ((impl_countNecklaces.f k a0 a1).bind fun t122 => (some (wrap64 (Int.tdiv (wrap64 (t122 + (wrap64 (Int.tdiv (wrap64 (t118 + t119)) 2)))) 2), true)))))) else (some (0, false))) = some (r1, r2) := H
  have A3 := Aside0.mk A30
  clear A30
  by_cases c4 : t117 = true
  · subst c4
    have H1 : ((impl_power.f k a1 (wrap64 (Int.tdiv a0 2))).bind fun t118 => ((impl_power.f k a1 (wrap64 (Int.tdiv (wrap64 (a0 + 2)) 2))).bind fun t119 => (if (Int.tmod a0 2) = 1 then ((impl_power.f k a1 (wrap64 (Int.tdiv (wrap64 (a0 + 1)) 2))).bind fun t120 => ((impl_countNecklaces.f k a0 a1).bind fun t121 => (some (wrap64 (Int.tdiv (wrap64 (t121 + t120)) 2), true)))) else ((impl_countNecklaces.f k a0 a1).bind fun t122 => (some (wrap64 (Int.tdiv (wrap64 (t122 + (wrap64 (Int.tdiv (wrap64 (t118 + t119)) 2)))) 2), true)))))) = some (r1, r2) := by rw [if_pos rfl] at H; exact H
    clear H
    have H := H1
    clear H1
    replace H := Option.bind_eq_some_iff.mp H
    obtain ⟨t118, A50, H⟩ := H
    replace H : ((impl_power.f k a1 (wrap64 (Int.tdiv (wrap64 (a0 + 2)) 2))).bind fun t119 => (if (Int.tmod a0 2) = 1 then ((impl_power.f k a1 (wrap64 (Int.tdiv (wrap64 (a0 + 1)) 2))).bind fun t120 => ((impl_countNecklaces.f k a0 a1).bind fun t121 => (some (wrap64 (Int.tdiv (wrap64 (t121 + t120)) 2), true)))) else ((impl_countNecklaces.f k a0 a1).bind fun t122 => (some (wrap64 (Int.tdiv (wrap64 (t122 + (wrap64 (Int.tdiv (wrap64 (t118 + t119)) 2)))) 2), true))))) = some (r1, r2) := H
    have A5 := Aside0.mk A50
    clear A50
    replace H := Option.bind_eq_some_iff.mp H
    obtain ⟨t119, A60, H⟩ := H
    replace H : (if (Int.tmod a0 2) = 1 then ((impl_power.f k a1 (wrap64 (Int.tdiv (wrap64 (a0 + 1)) 2))).bind fun t120 => ((impl_countNecklaces.f k a0 a1).bind fun t121 => (some (wrap64 (Int.tdiv (wrap64 (t121 + t120)) 2), true)))) else ((impl_countNecklaces.f k a0 a1).bind fun t122 => (some (wrap64 (Int.tdiv (wrap64 (t122 + (wrap64 (Int.tdiv (wrap64 (t118 + t119)) 2)))) 2), true)))) = some (r1, r2) := H
    have A6 := Aside0.mk A60
    clear A60
    by_cases c7 : (Int.tmod a0 2) = 1
    · rw [if_pos c7] at H
      have c7b0 : ((Int.tmod a0 2) == 1) = true := beq_iff_eq.mpr c7
      have c7b1 : ((Int.tmod a0 2) != 1) = false := bne_eq_false_iff_eq.mpr c7
      clear c7
      replace H := Option.bind_eq_some_iff.mp H
      obtain ⟨t120, A80, H⟩ := H
      replace H : ((impl_countNecklaces.f k a0 a1).bind fun t121 => (some (wrap64 (Int.tdiv (wrap64 (t121 + t120)) 2), true))) = some (r1, r2) := H
      have A8 := Aside0.mk A80
      clear A80
      replace H := Option.bind_eq_some_iff.mp H
      obtain ⟨t121, A90, H⟩ := H
      replace H : (some (wrap64 (Int.tdiv (wrap64 (t121 + t120)) 2), true)) = some (r1, r2) := H
      have A9 := Aside0.mk A90
      clear A90
      simp only [Option.some.injEq, Prod.mk.injEq] at H
      obtain ⟨rfl, rfl⟩ := H
      go_enter Try.func38, Try.ntmps38
      go_wp2_with (first | ((with_reducible refine gate_callee (f := 61) rfl ?_); refine goesL_ (some 9) rfl rfl Try.func61 (by kernel_rfl) rfl #[.int .i64 a0, .int .i64 a1] rfl (by (try simp only [List.map_toArray, List.map_cons, List.map_nil]); first | done | rfl | (simp only [List.length_drop, List.length_take]; rfl)) ?_; (with_reducible refine (impl_isOver.calls a0 a1 true _ A3.out).mono ?_); rintro e w' ⟨rfl, ⟨nd, rfl⟩⟩; refine ⟨_, rfl, ?_⟩) | ((with_reducible refine gate_callee (f := 71) rfl ?_); refine goesL_ (some 14) rfl rfl Try.func71 (by kernel_rfl) rfl #[.int .i64 a1, .int .i64 (wrap64 (Int.tdiv a0 2))] rfl (by (try simp only [List.map_toArray, List.map_cons, List.map_nil]); first | done | rfl | (simp only [List.length_drop, List.length_take]; rfl)) ?_; (with_reducible refine (impl_power.calls k a1 (wrap64 (Int.tdiv a0 2)) t118 _ A5.out).mono ?_); rintro e w' ⟨rfl, ⟨nd, rfl⟩⟩; refine ⟨_, rfl, ?_⟩) | ((with_reducible refine gate_callee (f := 71) rfl ?_); refine goesL_ (some 19) rfl rfl Try.func71 (by kernel_rfl) rfl #[.int .i64 a1, .int .i64 (wrap64 (Int.tdiv (wrap64 (a0 + 2)) 2))] rfl (by (try simp only [List.map_toArray, List.map_cons, List.map_nil]); first | done | rfl | (simp only [List.length_drop, List.length_take]; rfl)) ?_; (with_reducible refine (impl_power.calls k a1 (wrap64 (Int.tdiv (wrap64 (a0 + 2)) 2)) t119 _ A6.out).mono ?_); rintro e w' ⟨rfl, ⟨nd, rfl⟩⟩; refine ⟨_, rfl, ?_⟩) | ((with_reducible refine gate_callee (f := 71) rfl ?_); refine goesL_ (some 29) rfl rfl Try.func71 (by kernel_rfl) rfl #[.int .i64 a1, .int .i64 (wrap64 (Int.tdiv (wrap64 (a0 + 1)) 2))] rfl (by (try simp only [List.map_toArray, List.map_cons, List.map_nil]); first | done | rfl | (simp only [List.length_drop, List.length_take]; rfl)) ?_; (with_reducible refine (impl_power.calls k a1 (wrap64 (Int.tdiv (wrap64 (a0 + 1)) 2)) t120 _ A8.out).mono ?_); rintro e w' ⟨rfl, ⟨nd, rfl⟩⟩; refine ⟨_, rfl, ?_⟩) | ((with_reducible refine gate_callee (f := 67) rfl ?_); refine goesL_ (some 32) rfl rfl Try.func67 (by kernel_rfl) rfl #[.int .i64 a0, .int .i64 a1] rfl (by (try simp only [List.map_toArray, List.map_cons, List.map_nil]); first | done | rfl | (simp only [List.length_drop, List.length_take]; rfl)) ?_; (with_reducible refine (impl_countNecklaces.calls k a0 a1 t121 _ A9.out).mono ?_); rintro e w' ⟨rfl, ⟨nd, rfl⟩⟩; refine ⟨_, rfl, ?_⟩))
      go_ret2
      exact ⟨by first | rfl | (simp; done) | (simp [*]; done), by repeat (first | exact Drawn0.refl _ | apply Drawn0.step)⟩
    · rw [if_neg c7] at H
      have c7b0 : ((Int.tmod a0 2) == 1) = false := beq_eq_false_iff_ne.mpr c7
      have c7b1 : ((Int.tmod a0 2) != 1) = true := bne_iff_ne.mpr c7
      replace H := Option.bind_eq_some_iff.mp H
      obtain ⟨t122, A100, H⟩ := H
      replace H : (some (wrap64 (Int.tdiv (wrap64 (t122 + (wrap64 (Int.tdiv (wrap64 (t118 + t119)) 2)))) 2), true)) = some (r1, r2) := H
      have A10 := Aside0.mk A100
      clear A100
      simp only [Option.some.injEq, Prod.mk.injEq] at H
      obtain ⟨rfl, rfl⟩ := H
      go_enter Try.func38, Try.ntmps38
      go_wp2_with (first | ((with_reducible refine gate_callee (f := 61) rfl ?_); refine goesL_ (some 9) rfl rfl Try.func61 (by kernel_rfl) rfl #[.int .i64 a0, .int .i64 a1] rfl (by (try simp only [List.map_toArray, List.map_cons, List.map_nil]); first | done | rfl | (simp only [List.length_drop, List.length_take]; rfl)) ?_; (with_reducible refine (impl_isOver.calls a0 a1 true _ A3.out).mono ?_); rintro e w' ⟨rfl, ⟨nd, rfl⟩⟩; refine ⟨_, rfl, ?_⟩) | ((with_reducible refine gate_callee (f := 71) rfl ?_); refine goesL_ (some 14) rfl rfl Try.func71 (by kernel_rfl) rfl #[.int .i64 a1, .int .i64 (wrap64 (Int.tdiv a0 2))] rfl (by (try simp only [List.map_toArray, List.map_cons, List.map_nil]); first | done | rfl | (simp only [List.length_drop, List.length_take]; rfl)) ?_; (with_reducible refine (impl_power.calls k a1 (wrap64 (Int.tdiv a0 2)) t118 _ A5.out).mono ?_); rintro e w' ⟨rfl, ⟨nd, rfl⟩⟩; refine ⟨_, rfl, ?_⟩) | ((with_reducible refine gate_callee (f := 71) rfl ?_); refine goesL_ (some 19) rfl rfl Try.func71 (by kernel_rfl) rfl #[.int .i64 a1, .int .i64 (wrap64 (Int.tdiv (wrap64 (a0 + 2)) 2))] rfl (by (try simp only [List.map_toArray, List.map_cons, List.map_nil]); first | done | rfl | (simp only [List.length_drop, List.length_take]; rfl)) ?_; (with_reducible refine (impl_power.calls k a1 (wrap64 (Int.tdiv (wrap64 (a0 + 2)) 2)) t119 _ A6.out).mono ?_); rintro e w' ⟨rfl, ⟨nd, rfl⟩⟩; refine ⟨_, rfl, ?_⟩) | ((with_reducible refine gate_callee (f := 67) rfl ?_); refine goesL_ (some 32) rfl rfl Try.func67 (by kernel_rfl) rfl #[.int .i64 a0, .int .i64 a1] rfl (by (try simp only [List.map_toArray, List.map_cons, List.map_nil]); first | done | rfl | (simp only [List.length_drop, List.length_take]; rfl)) ?_; (with_reducible refine (impl_countNecklaces.calls k a0 a1 t122 _ A10.out).mono ?_); rintro e w' ⟨rfl, ⟨nd, rfl⟩⟩; refine ⟨_, rfl, ?_⟩))
      go_ret2
      exact ⟨by first | rfl | (simp; done) | (simp [*]; done), by repeat (first | exact Drawn0.refl _ | apply Drawn0.step)⟩
  · replace c4 := Bool.eq_false_iff.mpr c4
    subst c4
    have H1 : (some (0, false)) = some (r1, r2) := by rw [if_neg (show ¬ (false = true) by decide)] at H; exact H
    clear H
    have H := H1
    clear H1
    simp only [Option.some.injEq, Prod.mk.injEq] at H
    obtain ⟨rfl, rfl⟩ := H
    go_enter Try.func38, Try.ntmps38
    go_wp2_with (first | ((with_reducible refine gate_callee (f := 61) rfl ?_); refine goesL_ (some 9) rfl rfl Try.func61 (by kernel_rfl) rfl #[.int .i64 a0, .int .i64 a1] rfl (by (try simp only [List.map_toArray, List.map_cons, List.map_nil]); first | done | rfl | (simp only [List.length_drop, List.length_take]; rfl)) ?_; (with_reducible refine (impl_isOver.calls a0 a1 false _ A3.out).mono ?_); rintro e w' ⟨rfl, ⟨nd, rfl⟩⟩; refine ⟨_, rfl, ?_⟩))
    go_ret2
    exact ⟨by first | rfl | (simp; done) | (simp [*]; done), by repeat (first | exact Drawn0.refl _ | apply Drawn0.step)⟩

/-! ### laws_FnExactCountBracelets: function 9 -/
def laws_FnExactCountBracelets.f (k : Nat) (a0 : Int) (a1 : Int) : Option (Bool) := (spec_CountBracelets.f k a0 a1).bind fun bt123 => ((impl_CountBracelets.f k a0 a1).bind fun bt125 => (if bt125.1 = bt123.1 then (if (bt125.2 != bt123.2) = true then (some false) else (some true)) else (some false)))
theorem laws_FnExactCountBracelets.mono : ∀ a0 a1 k, LeO (laws_FnExactCountBracelets.f k a0 a1) (laws_FnExactCountBracelets.f (k + 1) a0 a1) := by
  intro a0 a1 k
  unfold laws_FnExactCountBracelets.f
  repeat' first
      | (with_reducible exact impl_CountBracelets.mono _ _ _)
      | (with_reducible exact spec_CountBracelets.mono _ _ _)
      | (with_reducible exact LeO.refl _)
      | (with_reducible exact LeO.none _)
      | (with_reducible refine LeO.ite ?_ ?_)
      | (with_reducible refine LeO.bind ?_ (fun _ => ?_))
      | exact impl_CountBracelets.mono _ _ _
      | exact spec_CountBracelets.mono _ _ _
      | exact LeO.none _
      | refine LeO.ite ?_ ?_
      | refine LeO.bind ?_ (fun _ => ?_)
set_option maxHeartbeats 8000000 in
set_option maxRecDepth 100000 in
theorem laws_FnExactCountBracelets.calls (k : Nat) (a0 : Int) (a1 : Int) (r : Bool) (w : World) (h : laws_FnExactCountBracelets.f k a0 a1 = some r) :
    Calls Try.prog 9 #[.int .i64 a0, .int .i64 a1] w fun e w' => e = .returned (.bool r) ∧ Drawn0 w w' := by
  have H : ((spec_CountBracelets.f k a0 a1).bind fun bt123 => ((impl_CountBracelets.f k a0 a1).bind fun bt125 => (if bt125.1 = bt123.1 then (if (bt125.2 != bt123.2) = true then (some false) else (some true)) else (some false)))) = some r := h
  clear h
  replace H := Option.bind_eq_some_iff.mp H
  obtain ⟨⟨t123, t124⟩, A30, H⟩ := H
  replace H : ((impl_CountBracelets.f k a0 a1).bind fun bt125 => (if bt125.1 = t123 then (if (bt125.2 != t124) = true then (some false) else (some true)) else (some false))) = some r := H
  have A3 := Aside0.mk A30
  clear A30
  replace H := Option.bind_eq_some_iff.mp H
  obtain ⟨⟨t125, t126⟩, A40, H⟩ := H
  replace H : (if t125 = t123 then (if (t126 != t124) = true then (some false) else (some true)) else (some false)) = some r := H
  have A4 := Aside0.mk A40
  clear A40
  by_cases c5 : t125 = t123
  · rw [if_pos c5] at H
    have c5b0 : (t125 == t123) = true := beq_iff_eq.mpr c5
    have c5b1 : (t125 != t123) = false := bne_eq_false_iff_eq.mpr c5
    clear c5
    by_cases c6 : (t126 != t124) = true
    · rw [if_pos c6] at H
      have c6b0 : (t126 != t124) = true := c6
      (try (have c6b1 : decide (t126 = t124) = false := by simpa using c6))
      (try (have c6b2 : (t126 == t124) = false := by simpa using c6))
      (try (have c6b3 : ¬ (t126 = t124) := by simpa using c6))
      clear c6
      obtain rfl := Option.some.inj H
      go_enter Try.func9, Try.ntmps9
      go_wp2_with (first | ((with_reducible refine gate_callee (f := 37) rfl ?_); refine goesL_ (some 12) rfl rfl Try.func37 (by kernel_rfl) rfl #[.int .i64 a0, .int .i64 a1] rfl (by (try simp only [List.map_toArray, List.map_cons, List.map_nil]); first | done | rfl | (simp only [List.length_drop, List.length_take]; rfl)) ?_; (with_reducible refine (spec_CountBracelets.calls k a0 a1 t123 t124 _ A3.out).mono ?_); rintro e w' ⟨rfl, ⟨nd, rfl⟩⟩; refine ⟨_, rfl, ?_⟩) | ((with_reducible refine gate_callee (f := 38) rfl ?_); refine goesL_ (some 18) rfl rfl Try.func38 (by kernel_rfl) rfl #[.int .i64 a0, .int .i64 a1] rfl (by (try simp only [List.map_toArray, List.map_cons, List.map_nil]); first | done | rfl | (simp only [List.length_drop, List.length_take]; rfl)) ?_; (with_reducible refine (impl_CountBracelets.calls k a0 a1 t125 t126 _ A4.out).mono ?_); rintro e w' ⟨rfl, ⟨nd, rfl⟩⟩; refine ⟨_, rfl, ?_⟩))
      go_ret
      exact ⟨by first | rfl | (simp; done) | (simp [*]; done), by repeat (first | exact Drawn0.refl _ | apply Drawn0.step)⟩
    · rw [if_neg c6] at H
      have c6b0 : (t126 != t124) = false := by simpa using c6
      (try (have c6b1 : decide (t126 = t124) = true := by simpa using c6))
      (try (have c6b2 : (t126 == t124) = true := by simpa using c6))
      clear c6
      obtain rfl := Option.some.inj H
      go_enter Try.func9, Try.ntmps9
      go_wp2_with (first | ((with_reducible refine gate_callee (f := 37) rfl ?_); refine goesL_ (some 12) rfl rfl Try.func37 (by kernel_rfl) rfl #[.int .i64 a0, .int .i64 a1] rfl (by (try simp only [List.map_toArray, List.map_cons, List.map_nil]); first | done | rfl | (simp only [List.length_drop, List.length_take]; rfl)) ?_; (with_reducible refine (spec_CountBracelets.calls k a0 a1 t123 t124 _ A3.out).mono ?_); rintro e w' ⟨rfl, ⟨nd, rfl⟩⟩; refine ⟨_, rfl, ?_⟩) | ((with_reducible refine gate_callee (f := 38) rfl ?_); refine goesL_ (some 18) rfl rfl Try.func38 (by kernel_rfl) rfl #[.int .i64 a0, .int .i64 a1] rfl (by (try simp only [List.map_toArray, List.map_cons, List.map_nil]); first | done | rfl | (simp only [List.length_drop, List.length_take]; rfl)) ?_; (with_reducible refine (impl_CountBracelets.calls k a0 a1 t125 t126 _ A4.out).mono ?_); rintro e w' ⟨rfl, ⟨nd, rfl⟩⟩; refine ⟨_, rfl, ?_⟩))
      go_ret
      exact ⟨by first | rfl | (simp; done) | (simp [*]; done), by repeat (first | exact Drawn0.refl _ | apply Drawn0.step)⟩
  · rw [if_neg c5] at H
    have c5b0 : (t125 == t123) = false := beq_eq_false_iff_ne.mpr c5
    have c5b1 : (t125 != t123) = true := bne_iff_ne.mpr c5
    obtain rfl := Option.some.inj H
    go_enter Try.func9, Try.ntmps9
    go_wp2_with (first | ((with_reducible refine gate_callee (f := 37) rfl ?_); refine goesL_ (some 12) rfl rfl Try.func37 (by kernel_rfl) rfl #[.int .i64 a0, .int .i64 a1] rfl (by (try simp only [List.map_toArray, List.map_cons, List.map_nil]); first | done | rfl | (simp only [List.length_drop, List.length_take]; rfl)) ?_; (with_reducible refine (spec_CountBracelets.calls k a0 a1 t123 t124 _ A3.out).mono ?_); rintro e w' ⟨rfl, ⟨nd, rfl⟩⟩; refine ⟨_, rfl, ?_⟩) | ((with_reducible refine gate_callee (f := 38) rfl ?_); refine goesL_ (some 18) rfl rfl Try.func38 (by kernel_rfl) rfl #[.int .i64 a0, .int .i64 a1] rfl (by (try simp only [List.map_toArray, List.map_cons, List.map_nil]); first | done | rfl | (simp only [List.length_drop, List.length_take]; rfl)) ?_; (with_reducible refine (impl_CountBracelets.calls k a0 a1 t125 t126 _ A4.out).mono ?_); rintro e w' ⟨rfl, ⟨nd, rfl⟩⟩; refine ⟨_, rfl, ?_⟩))
    go_ret
    exact ⟨by first | rfl | (simp; done) | (simp [*]; done), by repeat (first | exact Drawn0.refl _ | apply Drawn0.step)⟩

/-- THE ONE PURE STATEMENT of laws_FnExactCountBracelets: yours. -/
def laws_FnExactCountBracelets.Pure : Prop := ∀ (a0 : Int) (a1 : Int), (Lit.int .i64 a0).wf = true → (Lit.int .i64 a1).wf = true → ∃ k, laws_FnExactCountBracelets.f k a0 a1 = some true
theorem laws_FnExactCountBracelets.walk (P : laws_FnExactCountBracelets.Pure) (a0 : Int) (a1 : Int) (w : World) (w0 : (Lit.int .i64 a0).wf = true) (w1 : (Lit.int .i64 a1).wf = true) :
    Calls Try.prog 9 #[.int .i64 a0, .int .i64 a1] w fun e w' => e = .returned (.bool true) ∧ Below w.heap.size w w' := by
  obtain ⟨k, h⟩ := P a0 a1 w0 w1
  refine (laws_FnExactCountBracelets.calls k a0 a1 true w h).mono ?_
  rintro e w' ⟨rfl, hd⟩
  exact ⟨rfl, hd.below⟩

end Go.Proofs.Ytaaoeaojimjikaa.PFnExactCountBracelets
