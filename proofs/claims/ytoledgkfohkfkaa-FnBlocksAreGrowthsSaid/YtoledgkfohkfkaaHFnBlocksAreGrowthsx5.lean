/- Written by this session's program hprint.py out of the loaded functions. -/
import Derived.Test.YtoledgkfohkfkaaHFnBlocksAreGrowthsx0
namespace Go.Proofs.Ytoledgkfohkfkaa.HFnBlocksAreGrowths
open Go.RowKit Go.Proofs.YtoledgkfohkfkaaW.PrintWords Go.Proofs.YtoledgkfohkfkaaW.PrintLast Go.Proofs.YtoledgkfohkfkaaW.PrintMore
attribute [local go_sem] max2_int min2_int max_two min_two max_three min_three max_four min_four
set_option linter.unusedVariables false
set_option linter.unusedSimpArgs false

mutual
def impl_crosses.l0 : Nat → List Int → List Int → Int → Int → Option (Bool)
 | 0, _, _, _, _ => none
 | k + 1, x0, x8, x9, x10 => if x10 < x9 then (if 0 ≤ x10 then (if x10 < (x8.length : Int) then (impl_crosses.l1 k x0 (rd x8 x10) (wrap64 (x10 + 1)) x8 x9 x10) else (none)) else (none)) else (some false)
def impl_crosses.l1 : Nat → List Int → Int → Int → List Int → Int → Int → Option (Bool)
 | 0, _, _, _, _, _, _ => none
 | k + 1, x0, x4, x5, x8, x9, x10 => if x5 < (x0.length : Int) then (impl_crosses.l2 k x0 x4 x5 (wrap64 (x5 + 1)) x8 x9 x10) else (impl_crosses.l0 k x0 x8 x9 (wrap64 (x10 + 1)))
def impl_crosses.l2 : Nat → List Int → Int → Int → Int → List Int → Int → Int → Option (Bool)
 | 0, _, _, _, _, _, _, _ => none
 | k + 1, x0, x4, x5, x6, x8, x9, x10 => if x6 < (x0.length : Int) then (impl_crosses.l3 k x0 x4 x5 x6 (wrap64 (x6 + 1)) x8 x9 x10) else (impl_crosses.l1 k x0 x4 (wrap64 (x5 + 1)) x8 x9 x10)
def impl_crosses.l3 : Nat → List Int → Int → Int → Int → Int → List Int → Int → Int → Option (Bool)
 | 0, _, _, _, _, _, _, _, _ => none
 | k + 1, x0, x4, x5, x6, x7, x8, x9, x10 => if x7 < (x0.length : Int) then (if 0 ≤ x6 then (if x6 < (x0.length : Int) then (if x4 = (rd x0 x6) then (if 0 ≤ x5 then (if x5 < (x0.length : Int) then (if 0 ≤ x7 then (if (rd x0 x5) = (rd x0 x7) then (if x4 = (rd x0 x5) then (impl_crosses.l3 k x0 x4 x5 x6 (wrap64 (x7 + 1)) x8 x9 x10) else (some true)) else (impl_crosses.l3 k x0 x4 x5 x6 (wrap64 (x7 + 1)) x8 x9 x10)) else (none)) else (none)) else (none)) else (impl_crosses.l3 k x0 x4 x5 x6 (wrap64 (x7 + 1)) x8 x9 x10)) else (none)) else (none)) else (impl_crosses.l2 k x0 x4 x5 (wrap64 (x6 + 1)) x8 x9 x10)
end
def impl_crosses.f (k : Nat) (l0 : List Int) : Option (Bool) := impl_crosses.l0 k l0 l0 (l0.length : Int) 0
set_option maxHeartbeats 8000000 in
set_option maxRecDepth 100000 in
theorem impl_crosses.calls (k : Nat) (A0 : Option Addr) (c0 : Nat) (l0 : List Int) (r : Bool) (w : World) (hr0 : Kd.C (Kd.int .i64) w A0 l0.length l0) (hc0 : l0.length ≤ c0) (h : impl_crosses.f k l0 = some r) :
  Calls Try.prog 46 #[.slice A0 l0.length c0] w fun e w' => e = .returned (.bool r) ∧ Drawn0 w w' := by
 have HR0 := Aside0.mk hr0
 have HC0 := Aside0.mk hc0
 clear hr0 hc0
 have H : (impl_crosses.l0 k l0 l0 (l0.length : Int) 0) = some r := h
 clear h
 have H' := Aside0.mk H
 clear H
 go_enter Try.func46, Try.ntmps46
 go_wp2
 repeat (go_quiet (fail); try go_wp2)
 go_loopg [10] k (fun kq v10 w' => ∃ (x10_1 : Int), v10 = .int .i64 x10_1 ∧ Aside0 (impl_crosses.l0 kq l0 l0 (l0.length : Int) x10_1 = some r) ∧ Aside0 (kq ≤ k) ∧ Drawn0 w w')
 case atStart => exact ⟨(0), (by first | rfl | (simp; done) | (simp [*]; done)), H', ⟨Nat.le_refl _⟩, by repeat (first | exact Drawn0.refl _ | apply Drawn0.step)⟩
 case round =>
  clear H'
  obtain ⟨x10_1, rfl, HA, HK1, ⟨m1, rfl⟩⟩ := hrel
  cases gk with
  | zero => exact absurd HA.out (by simp [impl_crosses.l0])
  | succ k1 =>
   have H := HA.out
   clear HA
   simp only [impl_crosses.l0] at H
   by_cases c2 : x10_1 < (l0.length : Int)
   ·rw [if_pos c2] at H
    have c2b0 : decide (x10_1 < (l0.length : Int)) = true := decide_eq_true c2
    clear c2
    by_cases c3 : 0 ≤ x10_1
    ·rw [if_pos c3] at H
     have c3b0 : decide (0 ≤ x10_1) = true := decide_eq_true c3
     clear c3
     by_cases c4 : x10_1 < (l0.length : Int)
     ·rw [if_pos c4] at H
      have c4b0 : decide (x10_1 < (l0.length : Int)) = true := decide_eq_true c4
      clear c4
      have H' := Aside0.mk H
      clear H
      have p294 : 0 ≤ (x10_1 : Int) := of_decide_eq_true (by assumption)
      have q294 : x10_1 < (l0.length : Int) := of_decide_eq_true (by assumption)
      obtain ⟨ad294, e294, hx294_0⟩ := Kd.at_int HR0.out x10_1 p294 q294
      cases e294
      replace p294 := eq_true p294
      replace q294 := eq_true q294
      go_wp2
      repeat (go_quiet (fail); try go_wp2)
      go_loopg [5] k1 (fun kq v5 w' => ∃ (x5_2 : Int), v5 = .int .i64 x5_2 ∧ Aside0 (impl_crosses.l1 kq l0 (rd l0 x10_1) x5_2 l0 (l0.length : Int) x10_1 = some r) ∧ Aside0 (kq ≤ k1) ∧ Drawn0 w w')
      case atStart => exact ⟨(wrap64 (x10_1 + 1)), (by first | rfl | (simp; done) | (simp [*]; done)), H', ⟨Nat.le_refl _⟩, by repeat (first | exact Drawn0.refl _ | apply Drawn0.step)⟩
      case round =>
       clear H'
       try clear c2
       try clear c2b0
       try clear p2
       try clear q2
       try clear hx2
       try clear c3
       try clear c3b0
       try clear c4
       try clear c4b0
       try clear hx294_0
       try clear p294
       try clear q294
       obtain ⟨x5_2, rfl, HA, HK2, ⟨m2, rfl⟩⟩ := hrel
       cases gk with
       | zero => exact absurd HA.out (by simp [impl_crosses.l1])
       | succ k2 =>
        have H := HA.out
        clear HA
        simp only [impl_crosses.l1] at H
        by_cases c5 : x5_2 < (l0.length : Int)
        ·rw [if_pos c5] at H
         have c5b0 : decide (x5_2 < (l0.length : Int)) = true := decide_eq_true c5
         clear c5
         have H' := Aside0.mk H
         clear H
         go_wp2
         repeat (go_quiet (fail); try go_wp2)
         go_loopg [6] k2 (fun kq v6 w' => ∃ (x6_3 : Int), v6 = .int .i64 x6_3 ∧ Aside0 (impl_crosses.l2 kq l0 (rd l0 x10_1) x5_2 x6_3 l0 (l0.length : Int) x10_1 = some r) ∧ Aside0 (kq ≤ k2) ∧ Drawn0 w w')
         case atStart => exact ⟨(wrap64 (x5_2 + 1)), (by first | rfl | (simp; done) | (simp [*]; done)), H', ⟨Nat.le_refl _⟩, by repeat (first | exact Drawn0.refl _ | apply Drawn0.step)⟩
         case round =>
          clear H'
          try clear c2
          try clear c2b0
          try clear p2
          try clear q2
          try clear hx2
          try clear c3
          try clear c3b0
          try clear c4
          try clear c4b0
          try clear c5
          try clear c5b0
          try clear hx294_0
          try clear p2
          try clear p294
          try clear q2
          try clear q294
          obtain ⟨x6_3, rfl, HA, HK3, ⟨m3, rfl⟩⟩ := hrel
          cases gk with
          | zero => exact absurd HA.out (by simp [impl_crosses.l2])
          | succ k3 =>
           have H := HA.out
           clear HA
           simp only [impl_crosses.l2] at H
           by_cases c6 : x6_3 < (l0.length : Int)
           ·rw [if_pos c6] at H
            have c6b0 : decide (x6_3 < (l0.length : Int)) = true := decide_eq_true c6
            clear c6
            have H' := Aside0.mk H
            clear H
            go_wp2
            repeat (go_quiet (fail); try go_wp2)
            go_loopg [7] k3 (fun kq v7 w' => ∃ (x7_4 : Int), v7 = .int .i64 x7_4 ∧ Aside0 (impl_crosses.l3 kq l0 (rd l0 x10_1) x5_2 x6_3 x7_4 l0 (l0.length : Int) x10_1 = some r) ∧ Aside0 (kq ≤ k3) ∧ Drawn0 w w')
            case atStart => exact ⟨(wrap64 (x6_3 + 1)), (by first | rfl | (simp; done) | (simp [*]; done)), H', ⟨Nat.le_refl _⟩, by repeat (first | exact Drawn0.refl _ | apply Drawn0.step)⟩
            case round =>
             clear H'
             try clear c2
             try clear c2b0
             try clear p2
             try clear q2
             try clear hx2
             try clear c3
             try clear c3b0
             try clear c4
             try clear c4b0
             try clear c5
             try clear c5b0
             try clear c6
             try clear c6b0
             try clear p6
             try clear hx294_0
             try clear p2
             try clear p294
             try clear q2
             try clear q294
             obtain ⟨x7_4, rfl, HA, HK4, ⟨m4, rfl⟩⟩ := hrel
             cases gk with
             | zero => exact absurd HA.out (by simp [impl_crosses.l3])
             | succ k4 =>
              have H := HA.out
              clear HA
              simp only [impl_crosses.l3] at H
              by_cases c7 : x7_4 < (l0.length : Int)
              ·rw [if_pos c7] at H
               have c7b0 : decide (x7_4 < (l0.length : Int)) = true := decide_eq_true c7
               clear c7
               by_cases c8 : 0 ≤ x6_3
               ·rw [if_pos c8] at H
                have c8b0 : decide (0 ≤ x6_3) = true := decide_eq_true c8
                clear c8
                by_cases c9 : x6_3 < (l0.length : Int)
                ·rw [if_pos c9] at H
                 have c9b0 : decide (x6_3 < (l0.length : Int)) = true := decide_eq_true c9
                 clear c9
                 by_cases c10 : (rd l0 x10_1) = (rd l0 x6_3)
                 ·rw [if_pos c10] at H
                  have c10b0 : ((rd l0 x10_1) == (rd l0 x6_3)) = true := beq_iff_eq.mpr c10
                  have c10b1 : ((rd l0 x10_1) != (rd l0 x6_3)) = false := bne_eq_false_iff_eq.mpr c10
                  clear c10
                  by_cases c11 : 0 ≤ x5_2
                  ·rw [if_pos c11] at H
                   have c11b0 : decide (0 ≤ x5_2) = true := decide_eq_true c11
                   clear c11
                   by_cases c12 : x5_2 < (l0.length : Int)
                   ·rw [if_pos c12] at H
                    have c12b0 : decide (x5_2 < (l0.length : Int)) = true := decide_eq_true c12
                    clear c12
                    by_cases c13 : 0 ≤ x7_4
                    ·rw [if_pos c13] at H
                     have c13b0 : decide (0 ≤ x7_4) = true := decide_eq_true c13
                     clear c13
                     by_cases c14 : (rd l0 x5_2) = (rd l0 x7_4)
                     ·rw [if_pos c14] at H
                      have c14b0 : ((rd l0 x5_2) == (rd l0 x7_4)) = true := beq_iff_eq.mpr c14
                      have c14b1 : ((rd l0 x5_2) != (rd l0 x7_4)) = false := bne_eq_false_iff_eq.mpr c14
                      clear c14
                      by_cases c15 : (rd l0 x10_1) = (rd l0 x5_2)
                      ·rw [if_pos c15] at H
                       have c15b0 : ((rd l0 x10_1) == (rd l0 x5_2)) = true := beq_iff_eq.mpr c15
                       have c15b1 : ((rd l0 x10_1) != (rd l0 x5_2)) = false := bne_eq_false_iff_eq.mpr c15
                       clear c15
                       have H' := Aside0.mk H
                       clear H
                       have p295 : 0 ≤ (x6_3 : Int) := of_decide_eq_true (by assumption)
                       have q295 : x6_3 < (l0.length : Int) := of_decide_eq_true (by assumption)
                       obtain ⟨ad295, e295, hx295_0⟩ := Kd.at_int HR0.out x6_3 p295 q295
                       obtain rfl : ad294 = ad295 := (by injection e295)
                       replace p295 := eq_true p295
                       replace q295 := eq_true q295
                       have p296 : 0 ≤ (x5_2 : Int) := of_decide_eq_true (by assumption)
                       have q296 : x5_2 < (l0.length : Int) := of_decide_eq_true (by assumption)
                       obtain ⟨ad296, e296, hx296_0⟩ := Kd.at_int HR0.out x5_2 p296 q296
                       obtain rfl : ad294 = ad296 := (by injection e296)
                       replace p296 := eq_true p296
                       replace q296 := eq_true q296
                       have p297 : 0 ≤ (x7_4 : Int) := of_decide_eq_true (by assumption)
                       have q297 : x7_4 < (l0.length : Int) := of_decide_eq_true (by assumption)
                       obtain ⟨ad297, e297, hx297_0⟩ := Kd.at_int HR0.out x7_4 p297 q297
                       obtain rfl : ad294 = ad297 := (by injection e297)
                       replace p297 := eq_true p297
                       replace q297 := eq_true q297
                       have p298 : 0 ≤ (x5_2 : Int) := of_decide_eq_true (by assumption)
                       have q298 : x5_2 < (l0.length : Int) := of_decide_eq_true (by assumption)
                       obtain ⟨ad298, e298, hx298_0⟩ := Kd.at_int HR0.out x5_2 p298 q298
                       obtain rfl : ad294 = ad298 := (by injection e298)
                       replace p298 := eq_true p298
                       replace q298 := eq_true q298
                       go_wp2
                       repeat (go_quiet (fail); try go_wp2)
                       go_roundg k4
                       case measure => have := HK1.out; have := HK2.out; have := HK3.out; have := HK4.out; omega
                       case rel => exact ⟨(wrap64 (x7_4 + 1)), (by first | rfl | (simp; done) | (simp [*]; done)), H', ⟨by have := HK1.out; have := HK2.out; have := HK3.out; have := HK4.out; omega⟩, by repeat (first | exact Drawn0.refl _ | apply Drawn0.step)⟩
                      ·rw [if_neg c15] at H
                       have c15b0 : ((rd l0 x10_1) == (rd l0 x5_2)) = false := beq_eq_false_iff_ne.mpr c15
                       have c15b1 : ((rd l0 x10_1) != (rd l0 x5_2)) = true := bne_iff_ne.mpr c15
                       obtain rfl := Option.some.inj H
                       have p295 : 0 ≤ (x6_3 : Int) := of_decide_eq_true (by assumption)
                       have q295 : x6_3 < (l0.length : Int) := of_decide_eq_true (by assumption)
                       obtain ⟨ad295, e295, hx295_0⟩ := Kd.at_int HR0.out x6_3 p295 q295
                       obtain rfl : ad294 = ad295 := (by injection e295)
                       replace p295 := eq_true p295
                       replace q295 := eq_true q295
                       have p296 : 0 ≤ (x5_2 : Int) := of_decide_eq_true (by assumption)
                       have q296 : x5_2 < (l0.length : Int) := of_decide_eq_true (by assumption)
                       obtain ⟨ad296, e296, hx296_0⟩ := Kd.at_int HR0.out x5_2 p296 q296
                       obtain rfl : ad294 = ad296 := (by injection e296)
                       replace p296 := eq_true p296
                       replace q296 := eq_true q296
                       have p297 : 0 ≤ (x7_4 : Int) := of_decide_eq_true (by assumption)
                       have q297 : x7_4 < (l0.length : Int) := of_decide_eq_true (by assumption)
                       obtain ⟨ad297, e297, hx297_0⟩ := Kd.at_int HR0.out x7_4 p297 q297
                       obtain rfl : ad294 = ad297 := (by injection e297)
                       replace p297 := eq_true p297
                       replace q297 := eq_true q297
                       have p298 : 0 ≤ (x5_2 : Int) := of_decide_eq_true (by assumption)
                       have q298 : x5_2 < (l0.length : Int) := of_decide_eq_true (by assumption)
                       obtain ⟨ad298, e298, hx298_0⟩ := Kd.at_int HR0.out x5_2 p298 q298
                       obtain rfl : ad294 = ad298 := (by injection e298)
                       replace p298 := eq_true p298
                       replace q298 := eq_true q298
                       go_wp2
                       repeat (go_quiet (fail); try go_wp2)
                       go_ret
                       exact ⟨by first | rfl | (simp; done) | (simp [*]; done), by repeat (first | exact Drawn0.refl _ | apply Drawn0.step)⟩
                     ·rw [if_neg c14] at H
                      have c14b0 : ((rd l0 x5_2) == (rd l0 x7_4)) = false := beq_eq_false_iff_ne.mpr c14
                      have c14b1 : ((rd l0 x5_2) != (rd l0 x7_4)) = true := bne_iff_ne.mpr c14
                      have H' := Aside0.mk H
                      clear H
                      have p295 : 0 ≤ (x6_3 : Int) := of_decide_eq_true (by assumption)
                      have q295 : x6_3 < (l0.length : Int) := of_decide_eq_true (by assumption)
                      obtain ⟨ad295, e295, hx295_0⟩ := Kd.at_int HR0.out x6_3 p295 q295
                      obtain rfl : ad294 = ad295 := (by injection e295)
                      replace p295 := eq_true p295
                      replace q295 := eq_true q295
                      have p296 : 0 ≤ (x5_2 : Int) := of_decide_eq_true (by assumption)
                      have q296 : x5_2 < (l0.length : Int) := of_decide_eq_true (by assumption)
                      obtain ⟨ad296, e296, hx296_0⟩ := Kd.at_int HR0.out x5_2 p296 q296
                      obtain rfl : ad294 = ad296 := (by injection e296)
                      replace p296 := eq_true p296
                      replace q296 := eq_true q296
                      have p297 : 0 ≤ (x7_4 : Int) := of_decide_eq_true (by assumption)
                      have q297 : x7_4 < (l0.length : Int) := of_decide_eq_true (by assumption)
                      obtain ⟨ad297, e297, hx297_0⟩ := Kd.at_int HR0.out x7_4 p297 q297
                      obtain rfl : ad294 = ad297 := (by injection e297)
                      replace p297 := eq_true p297
                      replace q297 := eq_true q297
                      go_wp2
                      repeat (go_quiet (fail); try go_wp2)
                      go_roundg k4
                      case measure => have := HK1.out; have := HK2.out; have := HK3.out; have := HK4.out; omega
                      case rel => exact ⟨(wrap64 (x7_4 + 1)), (by first | rfl | (simp; done) | (simp [*]; done)), H', ⟨by have := HK1.out; have := HK2.out; have := HK3.out; have := HK4.out; omega⟩, by repeat (first | exact Drawn0.refl _ | apply Drawn0.step)⟩
                    ·rw [if_neg c13] at H
                     exact absurd H (by simp)
                   ·rw [if_neg c12] at H
                    exact absurd H (by simp)
                  ·rw [if_neg c11] at H
                   exact absurd H (by simp)
                 ·rw [if_neg c10] at H
                  have c10b0 : ((rd l0 x10_1) == (rd l0 x6_3)) = false := beq_eq_false_iff_ne.mpr c10
                  have c10b1 : ((rd l0 x10_1) != (rd l0 x6_3)) = true := bne_iff_ne.mpr c10
                  have H' := Aside0.mk H
                  clear H
                  have p295 : 0 ≤ (x6_3 : Int) := of_decide_eq_true (by assumption)
                  have q295 : x6_3 < (l0.length : Int) := of_decide_eq_true (by assumption)
                  obtain ⟨ad295, e295, hx295_0⟩ := Kd.at_int HR0.out x6_3 p295 q295
                  obtain rfl : ad294 = ad295 := (by injection e295)
                  replace p295 := eq_true p295
                  replace q295 := eq_true q295
                  go_wp2
                  repeat (go_quiet (fail); try go_wp2)
                  go_roundg k4
                  case measure => have := HK1.out; have := HK2.out; have := HK3.out; have := HK4.out; omega
                  case rel => exact ⟨(wrap64 (x7_4 + 1)), (by first | rfl | (simp; done) | (simp [*]; done)), H', ⟨by have := HK1.out; have := HK2.out; have := HK3.out; have := HK4.out; omega⟩, by repeat (first | exact Drawn0.refl _ | apply Drawn0.step)⟩
                ·rw [if_neg c9] at H
                 exact absurd H (by simp)
               ·rw [if_neg c8] at H
                exact absurd H (by simp)
              ·rw [if_neg c7] at H
               have c7b0 : decide (x7_4 < (l0.length : Int)) = false := decide_eq_false c7
               clear c7
               have H' := Aside0.mk H
               clear H
               go_wp2
               repeat (go_quiet (fail); try go_wp2)
               go_roundg k4
               case measure => have := HK1.out; have := HK2.out; have := HK3.out; have := HK4.out; omega
               case rel => exact ⟨(wrap64 (x6_3 + 1)), (by first | rfl | (simp; done) | (simp [*]; done)), H', ⟨by have := HK1.out; have := HK2.out; have := HK3.out; have := HK4.out; omega⟩, by repeat (first | exact Drawn0.refl _ | apply Drawn0.step)⟩
           ·rw [if_neg c6] at H
            have c6b0 : decide (x6_3 < (l0.length : Int)) = false := decide_eq_false c6
            clear c6
            have H' := Aside0.mk H
            clear H
            go_wp2
            repeat (go_quiet (fail); try go_wp2)
            go_roundg k3
            case measure => have := HK1.out; have := HK2.out; have := HK3.out; omega
            case rel => exact ⟨(wrap64 (x5_2 + 1)), (by first | rfl | (simp; done) | (simp [*]; done)), H', ⟨by have := HK1.out; have := HK2.out; have := HK3.out; omega⟩, by repeat (first | exact Drawn0.refl _ | apply Drawn0.step)⟩
        ·rw [if_neg c5] at H
         have c5b0 : decide (x5_2 < (l0.length : Int)) = false := decide_eq_false c5
         clear c5
         have H' := Aside0.mk H
         clear H
         go_wp2
         repeat (go_quiet (fail); try go_wp2)
         go_roundg k2
         case measure => have := HK1.out; have := HK2.out; omega
         case rel => exact ⟨(wrap64 (x10_1 + 1)), (by first | rfl | (simp; done) | (simp [*]; done)), H', ⟨by have := HK1.out; have := HK2.out; omega⟩, by repeat (first | exact Drawn0.refl _ | apply Drawn0.step)⟩
     ·rw [if_neg c4] at H
      exact absurd H (by simp)
    ·rw [if_neg c3] at H
     exact absurd H (by simp)
   ·rw [if_neg c2] at H
    have c2b0 : decide (x10_1 < (l0.length : Int)) = false := decide_eq_false c2
    clear c2
    obtain rfl := Option.some.inj H
    go_wp2
    repeat (go_quiet (fail); try go_wp2)
    go_ret
    exact ⟨by first | rfl | (simp; done) | (simp [*]; done), by repeat (first | exact Drawn0.refl _ | apply Drawn0.step)⟩

end Go.Proofs.Ytoledgkfohkfkaa.HFnBlocksAreGrowths
