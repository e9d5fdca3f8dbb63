/- Written by this session's program hprint.py out of the loaded functions. -/
import Derived.Test.YtoledgkfohkfkaaHFnBlocksAreGrowthsx0
import Derived.Test.YtoledgkfohkfkaaHFnBlocksAreGrowthsx9
namespace Go.Proofs.Ytoledgkfohkfkaa.HFnBlocksAreGrowths
open Go.RowKit Go.Proofs.YtoledgkfohkfkaaW.PrintWords Go.Proofs.YtoledgkfohkfkaaW.PrintLast Go.Proofs.YtoledgkfohkfkaaW.PrintMore
attribute [local go_sem] max2_int min2_int max_two min_two max_three min_three max_four min_four
set_option linter.unusedVariables false
set_option linter.unusedSimpArgs false

mutual
def impl_GrowthOfWord.j0 : Nat → List Int → Bool → Option (List Int × Bool)
 | 0, _, _ => none
 | k + 1, x0, x16 => if x16 = true then (some (([] : List Int), false)) else (impl_GrowthOfWord.l0 k x0 (([] : List Int)) (([] : List Int)) 0 x0 (x0.length : Int) 0)
def impl_GrowthOfWord.l0 : Nat → List Int → List Int → List Int → Int → List Int → Int → Int → Option (List Int × Bool)
 | 0, _, _, _, _, _, _, _ => none
 | k + 1, x0, x4, x5, x6, x19, x20, x21 => if x21 < x20 then (if 0 ≤ x21 then (if x21 < (x19.length : Int) then (if (rd x19 x21) = 1 then (if x5.length < 17592186044416 then (impl_GrowthOfWord.l0 k x0 x4 (x5 ++ [x6]) x6 x19 x20 (wrap64 (x21 + 1))) else (none)) else (if 0 ≤ (wrap64 ((x5.length : Int) - 1)) then (if (wrap64 ((x5.length : Int) - 1)) < (x5.length : Int) then (if x4.length < 17592186044416 then ((some (x4 ++ [rd x5 (wrap64 ((x5.length : Int) - 1))] : List Int)).bind fun y385 => (if (wrap64 ((x5.length : Int) - 1)) ≤ (x5.length : Int) then ((some (x5.take ((wrap64 ((x5.length : Int) - 1)) : Int).toNat : List Int)).bind fun y388 => (if x21 > 0 then (if 0 ≤ (wrap64 (x21 - 1)) then (if (wrap64 (x21 - 1)) < (x0.length : Int) then (if (rd x0 (wrap64 (x21 - 1))) = 1 then (impl_GrowthOfWord.l0 k x0 y385 y388 (wrap64 (x6 + 1)) x19 x20 (wrap64 (x21 + 1))) else (impl_GrowthOfWord.l0 k x0 y385 y388 x6 x19 x20 (wrap64 (x21 + 1)))) else (none)) else (none)) else (impl_GrowthOfWord.l0 k x0 y385 y388 x6 x19 x20 (wrap64 (x21 + 1))))) else (none))) else (none)) else (none)) else (none))) else (none)) else (none)) else (some (x4, true))
end
def impl_GrowthOfWord.f (k : Nat) (l0 : List Int) : Option (List Int × Bool) := (impl_IsBalancedWord.f k l0).bind fun t373 => (if t373 = true then (impl_GrowthOfWord.j0 k l0 ((l0.length : Int) == 0)) else (impl_GrowthOfWord.j0 k l0 true))
set_option maxHeartbeats 8000000 in
set_option maxRecDepth 100000 in
theorem impl_GrowthOfWord.calls (k : Nat) (A0 : Option Addr) (c0 : Nat) (l0 : List Int) (r1 : List Int) (r2 : Bool) (w : World) (hr0 : Kd.C (Kd.int .i64) w A0 l0.length l0) (hc0 : l0.length ≤ c0) (h : impl_GrowthOfWord.f k l0 = some (r1, r2)) :
  Calls Try.prog 18 #[.slice A0 l0.length c0] w fun e w' => ∃ v0_ : Value, e = .returned (.tuple #[v0_, .bool r2]) ∧ Kd.R (Kd.int .i64) 3 w' w.heap.size (fun _ => True) v0_ r1 ∧ Below w.heap.size w w' := by
 have HR0 := Aside0.mk hr0
 have HC0 := Aside0.mk hc0
 clear hr0 hc0
 have HB := Aside0.mk (Below.refl w.heap.size w)
 have H : ((impl_IsBalancedWord.f k l0).bind fun t373 => (if t373 = true then (impl_GrowthOfWord.j0 k l0 ((l0.length : Int) == 0)) else (impl_GrowthOfWord.j0 k l0 true))) = some (r1, r2) := h
 clear h
 have HC2 := Aside0.mk H
 clear H
 go_enter Try.func18, Try.ntmps18
 go_upto_region 1 with (fail)
 go_cut [16] (fun v16 wc => ∃ (kq : Nat) (x16_1 : Bool), v16 = .bool x16_1 ∧ Aside0 (impl_GrowthOfWord.j0 kq l0 x16_1 = some (r1, r2)) ∧ Aside0 (kq ≤ k) ∧ Aside0 (Below w.heap.size w wc))
 case first =>
  have H := HC2.out
  clear HC2
  replace H := Option.bind_eq_some_iff.mp H
  obtain ⟨t373, A30, H⟩ := H
  replace H : (if t373 = true then (impl_GrowthOfWord.j0 k l0 ((l0.length : Int) == 0)) else (impl_GrowthOfWord.j0 k l0 true)) = some (r1, r2) := H
  have A3 := Aside0.mk A30
  clear A30
  by_cases c4 : t373 = true
  ·subst c4
   have H1 : (impl_GrowthOfWord.j0 k l0 ((l0.length : Int) == 0)) = some (r1, r2) := by rw [if_pos rfl] at H; exact H
   clear H
   have H := H1
   clear H1
   have H' := Aside0.mk H
   clear H
   go_wp2_with (first | ((with_reducible refine gate_callee (f := 19) rfl ?_); refine goesL_ (some 10) rfl rfl Try.func19 (by kernel_rfl) rfl #[.slice A0 l0.length c0] rfl (by (try simp only [List.map_toArray, List.map_cons, List.map_nil]); first | done | rfl) ?_; (with_reducible refine (impl_IsBalancedWord.calls k _ _ l0 true _ ?side1 ?side2 A3.out).mono ?_); (case side1 => repeat (first | exact (Kd.C_below HR0.out HB.out) | (with_reducible first | apply Kd.C_alloc | apply Kd.C_drewN | apply Kd.C_drew))); (case side2 => exact HC0.out); rintro e w' ⟨rfl, ⟨nd, rfl⟩⟩; refine ⟨_, rfl, ?_⟩))
   go_meet
   case rel => exact ⟨_, (((l0.length : Int) == 0)), (by first | rfl | (simp; done) | (simp [*]; done)), H', ⟨by first | omega | exact Nat.le_refl _⟩, ⟨by repeat (first | (with_reducible first | exact HB.out | apply below_alloc | apply pw_below_drewN | apply below_drew1) | exact HB.out)⟩⟩
  ·replace c4 := Bool.eq_false_iff.mpr c4
   subst c4
   have H1 : (impl_GrowthOfWord.j0 k l0 true) = some (r1, r2) := by rw [if_neg (show ¬ (false = true) by decide)] at H; exact H
   clear H
   have H := H1
   clear H1
   have H' := Aside0.mk H
   clear H
   go_wp2_with (first | ((with_reducible refine gate_callee (f := 19) rfl ?_); refine goesL_ (some 10) rfl rfl Try.func19 (by kernel_rfl) rfl #[.slice A0 l0.length c0] rfl (by (try simp only [List.map_toArray, List.map_cons, List.map_nil]); first | done | rfl) ?_; (with_reducible refine (impl_IsBalancedWord.calls k _ _ l0 false _ ?side1 ?side2 A3.out).mono ?_); (case side1 => repeat (first | exact (Kd.C_below HR0.out HB.out) | (with_reducible first | apply Kd.C_alloc | apply Kd.C_drewN | apply Kd.C_drew))); (case side2 => exact HC0.out); rintro e w' ⟨rfl, ⟨nd, rfl⟩⟩; refine ⟨_, rfl, ?_⟩))
   go_meet
   case rel => exact ⟨_, (true), (by first | rfl | (simp; done) | (simp [*]; done)), H', ⟨by first | omega | exact Nat.le_refl _⟩, ⟨by repeat (first | (with_reducible first | exact HB.out | apply below_alloc | apply pw_below_drewN | apply below_drew1) | exact HB.out)⟩⟩
 case rest =>
  clear HC2
  try clear c1
  try clear p2
  try clear c4
  obtain ⟨kq, x16_1, rfl, HA, HJ1, HB⟩ := hcut
  cases kq with
  | zero => exact absurd HA.out (by simp [impl_GrowthOfWord.j0])
  | succ kj1 =>
   have H := HA.out
   clear HA
   simp only [impl_GrowthOfWord.j0] at H
   by_cases c5 : x16_1 = true
   ·subst c5
    have H1 : (some (([] : List Int), false)) = some (r1, r2) := by rw [if_pos rfl] at H; exact H
    clear H
    have H := H1
    clear H1
    simp only [Option.some.injEq, Prod.mk.injEq] at H
    obtain ⟨rfl, rfl⟩ := H
    go_wp2
    go_ret2
    exact ⟨_, by first | rfl | (simp <;> rfl) | (simp [*] <;> rfl), by first | exact Kd.R_nil _ _ _ _ _ | exact Kd.N_nil _ _ _ _ _ | exact Kd.V_nil _ _ _ _ _ | exact Kd.Q_nil _ _ _ _ _ | exact Kd.S_nil _ _ _ _ _, by repeat (first | (with_reducible first | exact HB.out | apply below_alloc | apply pw_below_drewN | apply below_drew1) | exact HB.out)⟩
   ·replace c5 := Bool.eq_false_iff.mpr c5
    subst c5
    have H1 : (impl_GrowthOfWord.l0 kj1 l0 (([] : List Int)) (([] : List Int)) 0 l0 (l0.length : Int) 0) = some (r1, r2) := by rw [if_neg (show ¬ (false = true) by decide)] at H; exact H
    clear H
    have H := H1
    clear H1
    obtain ⟨y374, hy374⟩ : ∃ y_ : List Int, y_ = (([] : List Int)) := ⟨_, rfl⟩
    replace H : (impl_GrowthOfWord.l0 kj1 l0 y374 (([] : List Int)) 0 l0 (l0.length : Int) 0) = some (r1, r2) := by first | (rw [hy374]; with_reducible exact H) | (have H2_ := (Option.bind_some _ _).symm.trans H; rw [hy374]; with_reducible exact H2_) | (have H2_ := (Option.bind_some _ _).symm.trans H; with_reducible exact H2_) | with_reducible exact H | (rw [hy374]; exact H) | exact H
    have Ny374 := Aside0.mk hy374
    clear hy374
    obtain ⟨y377, hy377⟩ : ∃ y_ : List Int, y_ = (([] : List Int)) := ⟨_, rfl⟩
    replace H : (impl_GrowthOfWord.l0 kj1 l0 y374 y377 0 l0 (l0.length : Int) 0) = some (r1, r2) := by first | (rw [hy377]; with_reducible exact H) | (have H2_ := (Option.bind_some _ _).symm.trans H; rw [hy377]; with_reducible exact H2_) | (have H2_ := (Option.bind_some _ _).symm.trans H; with_reducible exact H2_) | with_reducible exact H | (rw [hy377]; exact H) | exact H
    have Ny377 := Aside0.mk hy377
    clear hy377
    have H' := Aside0.mk H
    clear H
    go_wp2_with (first | ((with_reducible refine gate_dst (N := 17) rfl ?_); (try (refine gate_guard (by rfl) ?_; dsimp only)); refine Kd.R_lit (Kd.int .i64) _ 3 ?hg (N := 17) ?hd (xs := ([] : List Int)) (inner := []) (ok := fun _ => True) (okp := fun _ => True) ?hr ?hp (fun _ hk => hk) trivial (Below.refl _ _) (Nat.le_refl _) (by simp) ?_; (case hd => rfl); (case hg => rfl); (case hr => first | (go_simp; done) | (go_simp; rfl)); (case hp => exact (Reps.none _ _)); intro v375 w6 ho7 hb hg_ hnew_; clear hg_ hnew_; (first | rw [← Ny374.out] at ho7 | (simp only [Int.reduceToNat] at ho7; rw [← Ny374.out] at ho7)); have n0_ := Aside0.mk (Kd.R_lower ho7 (below_size (by repeat (first | (with_reducible first | exact HB.out | apply below_alloc | apply pw_below_drewN | apply below_drew1))))); have n1_ := Aside0.mk (below_step (by repeat (first | (with_reducible first | exact HB.out | apply below_alloc | apply pw_below_drewN | apply below_drew1))) hb); clear HB; have HO376 := n0_; have HB := n1_; clear n0_ n1_; clear hb ho7) | ((with_reducible refine gate_dst (N := 18) rfl ?_); (try (refine gate_guard (by rfl) ?_; dsimp only)); refine Kd.R_lit (Kd.int .i64) _ 3 ?hg (N := 18) ?hd (xs := ([] : List Int)) (inner := []) (ok := fun _ => True) (okp := fun _ => True) ?hr ?hp (fun _ hk => hk) trivial (Below.refl _ _) (Nat.le_refl _) (by simp) ?_; (case hd => rfl); (case hg => rfl); (case hr => first | (go_simp; done) | (go_simp; rfl)); (case hp => exact (Reps.none _ _)); intro v378 w8 ho9 hb hg_ hnew_; clear hg_ hnew_; (first | rw [← Ny377.out] at ho9 | (simp only [Int.reduceToNat] at ho9; rw [← Ny377.out] at ho9)); have n0_ := Aside0.mk (Kd.R_elder' (by (with_reducible repeat (first | apply Kd.R_alloc | apply Kd.R_drewN | apply Kd.R_drew)); exact HO376.out) (Kd.R_base ho9) hb); have n1_ := Aside0.mk (Kd.R_lower (Kd.R_new' ho9 (Kd.R_lt (by (with_reducible repeat (first | apply Kd.R_alloc | apply Kd.R_drewN | apply Kd.R_drew)); exact HO376.out))) (below_size (by repeat (first | (with_reducible first | exact HB.out | apply below_alloc | apply pw_below_drewN | apply below_drew1))))); have n2_ := Aside0.mk (below_step (by repeat (first | (with_reducible first | exact HB.out | apply below_alloc | apply pw_below_drewN | apply below_drew1))) hb); clear HO376; clear HB; have HO376 := n0_; have HO379 := n1_; have HB := n2_; clear n0_ n1_ n2_; clear hb ho9))
    go_loopg [4, 5, 6, 21] kj1 (fun kq v4 v5 v6 v21 w' => ∃ (x4_2 : List Int) (x5_2 : List Int) (x6_2 : Int) (x21_2 : Int), v6 = .int .i64 x6_2 ∧ v21 = .int .i64 x21_2 ∧ Aside0 (impl_GrowthOfWord.l0 kq l0 x4_2 x5_2 x6_2 l0 (l0.length : Int) x21_2 = some (r1, r2)) ∧ Aside0 (kq ≤ kj1) ∧ Aside0 (Kd.R (Kd.int .i64) 3 w' w.heap.size (fun k_ => some k_ ≠ (v5 : Value).ownBlock) v4 x4_2) ∧ Aside0 (Kd.R (Kd.int .i64) 3 w' w.heap.size (fun k_ => some k_ ≠ (v4 : Value).ownBlock) v5 x5_2) ∧ Aside0 (Below w.heap.size w w'))
    case atStart => exact ⟨(y374), (y377), (0), (0), (by first | rfl | (simp; done) | (simp [*]; done)), (by first | rfl | (simp; done) | (simp [*]; done)), H', ⟨Nat.le_refl _⟩, ⟨by (with_reducible repeat (first | apply Kd.R_alloc | apply Kd.R_drewN | apply Kd.R_drew)); (first | exact Kd.R_mono HO376.out (fun _ hk => hk.2) | (have hz_ := Kd.R_mono HO376.out (fun _ hk => hk.2); (try simp only [ob_] at hz_); (try simp only [ob_]); exact hz_))⟩, ⟨by (with_reducible repeat (first | apply Kd.R_alloc | apply Kd.R_drewN | apply Kd.R_drew)); (first | exact Kd.R_mono HO379.out (fun _ hk => hk.2) | (have hz_ := Kd.R_mono HO379.out (fun _ hk => hk.2); (try simp only [ob_] at hz_); (try simp only [ob_]); exact hz_))⟩, ⟨by repeat (first | (with_reducible first | exact HB.out | apply below_alloc | apply pw_below_drewN | apply below_drew1) | exact HB.out)⟩⟩
    case round =>
     clear H'
     try clear c1
     try clear p2
     try clear c4
     try clear c5
     try clear p2
     obtain ⟨x4_2, x5_2, x6_2, x21_2, rfl, rfl, HA, HK2, HO_4, HO_5, HB⟩ := hrel
     cases gk with
     | zero => exact absurd HA.out (by simp [impl_GrowthOfWord.l0])
     | succ k2 =>
      have H := HA.out
      clear HA
      simp only [impl_GrowthOfWord.l0] at H
      by_cases c10 : x21_2 < (l0.length : Int)
      ·rw [if_pos c10] at H
       have c10b0 : decide (x21_2 < (l0.length : Int)) = true := decide_eq_true c10
       clear c10
       by_cases c11 : 0 ≤ x21_2
       ·rw [if_pos c11] at H
        have c11b0 : decide (0 ≤ x21_2) = true := decide_eq_true c11
        clear c11
        by_cases c12 : x21_2 < (l0.length : Int)
        ·rw [if_pos c12] at H
         have c12b0 : decide (x21_2 < (l0.length : Int)) = true := decide_eq_true c12
         clear c12
         by_cases c13 : (rd l0 x21_2) = 1
         ·rw [if_pos c13] at H
          have c13b0 : ((rd l0 x21_2) == 1) = true := beq_iff_eq.mpr c13
          have c13b1 : ((rd l0 x21_2) != 1) = false := bne_eq_false_iff_eq.mpr c13
          clear c13
          by_cases c14 : x5_2.length < 17592186044416
          ·rw [if_pos c14] at H
           have LMc14 := Aside0.mk c14
           clear c14
           obtain ⟨y381, hy381⟩ : ∃ y_ : List Int, y_ = (x5_2 ++ [x6_2]) := ⟨_, rfl⟩
           replace H : (impl_GrowthOfWord.l0 k2 l0 x4_2 y381 x6_2 l0 (l0.length : Int) (wrap64 (x21_2 + 1))) = some (r1, r2) := by first | (rw [hy381]; with_reducible exact H) | (have H2_ := (Option.bind_some _ _).symm.trans H; rw [hy381]; with_reducible exact H2_) | (have H2_ := (Option.bind_some _ _).symm.trans H; with_reducible exact H2_) | with_reducible exact H | (rw [hy381]; exact H) | exact H
           have Ny381 := Aside0.mk hy381
           clear hy381
           have H' := Aside0.mk H
           clear H
           have p380 : 0 ≤ (x21_2 : Int) := of_decide_eq_true (by assumption)
           have q380 : x21_2 < (l0.length : Int) := of_decide_eq_true (by assumption)
           obtain ⟨ad380, e380, hx380_0⟩ := Kd.at_int HR0.out x21_2 p380 q380
           cases e380
           replace hx380_0 := (HB.out.cell (World.block_lt_of_cell? w _ hx380_0)).trans hx380_0
           replace p380 := eq_true p380
           replace q380 := eq_true q380
           go_wp2_with (first | ((with_reducible refine gate_builtin (b := .append) (xs := #[.tmp 28, .tmp 30]) rfl ?_); (try (refine gate_guard (by rfl) ?_; dsimp only)); at_builtin; refine Kd.R_append (Kd.int .i64) (w0 := w) w.heap.size rfl (.tmp 28) (.tmp 30) 24 3 (.int .i64 0) 8 rfl Try.underlying24 info3 rfl (by decide) (by omega) u5 x5_2 x6_2 [.int .i64 x6_2] (fun k_ => some k_ ≠ (u4 : Value).ownBlock) (fun _ => False) rfl rfl ?aP (fun _ hk => hk.elim) ?aF ?aO ?aB ?aS ?aL ?_; (case aP => exact rfl); (case aB => exact (by repeat (first | (with_reducible first | exact HB.out | apply below_alloc | apply pw_below_drewN | apply below_drew1)))); (case aF => exact (fun k_ hk => Kd.fresh' (Kd.R_lt (by (with_reducible repeat (first | apply Kd.R_alloc | apply Kd.R_drewN | apply Kd.R_drew)); exact HO_4.out)) k_ hk)); (case aO => exact (by (with_reducible repeat (first | apply Kd.R_alloc | apply Kd.R_drewN | apply Kd.R_drew)); exact HO_5.out)); (case aS => exact (below_size (by repeat (first | (with_reducible first | exact HB.out | apply below_alloc | apply pw_below_drewN | apply below_drew1))))); (case aL => have := LMc14.out; omega); intro v382 w15 ho hb hg hat; rw [← Ny381.out] at ho; have n0_ := Aside0.mk (Kd.R_after (ok := (fun _ => True)) (by (with_reducible repeat (first | apply Kd.R_alloc | apply Kd.R_drewN | apply Kd.R_drew)); (first | exact Kd.R_mono HO_4.out (fun _ hk => ⟨trivial, hk⟩) | (have hz_ := Kd.R_mono HO_4.out (fun _ hk => ⟨trivial, hk⟩); (try simp only [ob_] at hz_); (try simp only [ob_]); exact hz_))) hg hat); have n1_ := Aside0.mk (hb); have n2_ := Aside0.mk (ho); clear HO_4; clear HB; clear HO_5; have HO_4 := n0_; have HB := n1_; have HO383 := n2_; clear n0_ n1_ n2_; clear ho hb hg hat))
           go_roundg k2
           case measure => have := HJ1.out; have := HK2.out; omega
           case rel => exact ⟨(x4_2), (y381), (x6_2), (wrap64 (x21_2 + 1)), (by first | rfl | (simp; done) | (simp [*]; done)), (by first | rfl | (simp; done) | (simp [*]; done)), H', ⟨by have := HJ1.out; have := HK2.out; omega⟩, ⟨by (with_reducible repeat (first | apply Kd.R_alloc | apply Kd.R_drewN | apply Kd.R_drew)); (first | exact Kd.R_mono HO_4.out (fun _ hk => hk.2) | (have hz_ := Kd.R_mono HO_4.out (fun _ hk => hk.2); (try simp only [ob_] at hz_); (try simp only [ob_]); exact hz_))⟩, ⟨by (with_reducible repeat (first | apply Kd.R_alloc | apply Kd.R_drewN | apply Kd.R_drew)); exact HO383.out⟩, ⟨by repeat (first | (with_reducible first | exact HB.out | apply below_alloc | apply pw_below_drewN | apply below_drew1) | exact HB.out)⟩⟩
          ·rw [if_neg c14] at H
           exact absurd H (by simp)
         ·rw [if_neg c13] at H
          have c13b0 : ((rd l0 x21_2) == 1) = false := beq_eq_false_iff_ne.mpr c13
          have c13b1 : ((rd l0 x21_2) != 1) = true := bne_iff_ne.mpr c13
          obtain ⟨ji16, hji16⟩ : ∃ j_ : Int, (wrap64 ((x5_2.length : Int) - 1)) = j_ := ⟨_, rfl⟩
          replace H : (if 0 ≤ (ji16) then (if (ji16) < (x5_2.length : Int) then (if x4_2.length < 17592186044416 then ((some (x4_2 ++ [rd x5_2 (ji16)] : List Int)).bind fun y385 => (if (ji16) ≤ (x5_2.length : Int) then ((some (x5_2.take ((ji16) : Int).toNat : List Int)).bind fun y388 => (if x21_2 > 0 then (if 0 ≤ (wrap64 (x21_2 - 1)) then (if (wrap64 (x21_2 - 1)) < (l0.length : Int) then (if (rd l0 (wrap64 (x21_2 - 1))) = 1 then (impl_GrowthOfWord.l0 k2 l0 y385 y388 (wrap64 (x6_2 + 1)) l0 (l0.length : Int) (wrap64 (x21_2 + 1))) else (impl_GrowthOfWord.l0 k2 l0 y385 y388 x6_2 l0 (l0.length : Int) (wrap64 (x21_2 + 1)))) else (none)) else (none)) else (impl_GrowthOfWord.l0 k2 l0 y385 y388 x6_2 l0 (l0.length : Int) (wrap64 (x21_2 + 1))))) else (none))) else (none)) else (none)) else (none)) = some (r1, r2) := by first | (rw [hji16] at H; exact H) | (simp only [hji16] at H ⊢; exact H)
          have hji16w : (IntKind.i64.wrap ((x5_2.length : Int) - 1)) = ji16 := (i64_w _).trans hji16
          by_cases c17 : 0 ≤ (ji16)
          ·rw [if_pos c17] at H
           have c17b0 : decide (0 ≤ (ji16)) = true := decide_eq_true c17
           clear c17
           by_cases c18 : (ji16) < (x5_2.length : Int)
           ·rw [if_pos c18] at H
            have c18b0 : decide ((ji16) < (x5_2.length : Int)) = true := decide_eq_true c18
            clear c18
            by_cases c19 : x4_2.length < 17592186044416
            ·rw [if_pos c19] at H
             have LMc19 := Aside0.mk c19
             clear c19
             obtain ⟨y385, hy385⟩ : ∃ y_ : List Int, y_ = (x4_2 ++ [rd x5_2 (ji16)]) := ⟨_, rfl⟩
             replace H : (if (ji16) ≤ (x5_2.length : Int) then ((some (x5_2.take ((ji16) : Int).toNat : List Int)).bind fun y388 => (if x21_2 > 0 then (if 0 ≤ (wrap64 (x21_2 - 1)) then (if (wrap64 (x21_2 - 1)) < (l0.length : Int) then (if (rd l0 (wrap64 (x21_2 - 1))) = 1 then (impl_GrowthOfWord.l0 k2 l0 y385 y388 (wrap64 (x6_2 + 1)) l0 (l0.length : Int) (wrap64 (x21_2 + 1))) else (impl_GrowthOfWord.l0 k2 l0 y385 y388 x6_2 l0 (l0.length : Int) (wrap64 (x21_2 + 1)))) else (none)) else (none)) else (impl_GrowthOfWord.l0 k2 l0 y385 y388 x6_2 l0 (l0.length : Int) (wrap64 (x21_2 + 1))))) else (none)) = some (r1, r2) := by first | (rw [hy385]; with_reducible exact H) | (have H2_ := (Option.bind_some _ _).symm.trans H; rw [hy385]; with_reducible exact H2_) | (have H2_ := (Option.bind_some _ _).symm.trans H; with_reducible exact H2_) | with_reducible exact H | (rw [hy385]; exact H) | exact H
             have Ny385 := Aside0.mk hy385
             clear hy385
             by_cases c20 : (ji16) ≤ (x5_2.length : Int)
             ·rw [if_pos c20] at H
              have c20b0 := eq_true c20
              have c20b1 : decide ((ji16) ≤ (x5_2.length : Int)) = true := decide_eq_true c20
              clear c20
              obtain ⟨y388, hy388⟩ : ∃ y_ : List Int, y_ = (x5_2.take ((ji16) : Int).toNat) := ⟨_, rfl⟩
              replace H : (if x21_2 > 0 then (if 0 ≤ (wrap64 (x21_2 - 1)) then (if (wrap64 (x21_2 - 1)) < (l0.length : Int) then (if (rd l0 (wrap64 (x21_2 - 1))) = 1 then (impl_GrowthOfWord.l0 k2 l0 y385 y388 (wrap64 (x6_2 + 1)) l0 (l0.length : Int) (wrap64 (x21_2 + 1))) else (impl_GrowthOfWord.l0 k2 l0 y385 y388 x6_2 l0 (l0.length : Int) (wrap64 (x21_2 + 1)))) else (none)) else (none)) else (impl_GrowthOfWord.l0 k2 l0 y385 y388 x6_2 l0 (l0.length : Int) (wrap64 (x21_2 + 1)))) = some (r1, r2) := by first | (rw [hy388]; with_reducible exact H) | (have H2_ := (Option.bind_some _ _).symm.trans H; rw [hy388]; with_reducible exact H2_) | (have H2_ := (Option.bind_some _ _).symm.trans H; with_reducible exact H2_) | with_reducible exact H | (rw [hy388]; exact H) | exact H
              have Ny388 := Aside0.mk hy388
              clear hy388
              by_cases c21 : x21_2 > 0
              ·rw [if_pos c21] at H
               have c21b0 : decide (0 < x21_2) = true := decide_eq_true c21
               clear c21
               obtain ⟨ji22, hji22⟩ : ∃ j_ : Int, (wrap64 (x21_2 - 1)) = j_ := ⟨_, rfl⟩
               replace H : (if 0 ≤ (ji22) then (if (ji22) < (l0.length : Int) then (if (rd l0 (ji22)) = 1 then (impl_GrowthOfWord.l0 k2 l0 y385 y388 (wrap64 (x6_2 + 1)) l0 (l0.length : Int) (wrap64 (x21_2 + 1))) else (impl_GrowthOfWord.l0 k2 l0 y385 y388 x6_2 l0 (l0.length : Int) (wrap64 (x21_2 + 1)))) else (none)) else (none)) = some (r1, r2) := by first | (rw [hji22] at H; exact H) | (simp only [hji22] at H ⊢; exact H)
               have hji22w : (IntKind.i64.wrap (x21_2 - 1)) = ji22 := (i64_w _).trans hji22
               by_cases c23 : 0 ≤ (ji22)
               ·rw [if_pos c23] at H
                have c23b0 : decide (0 ≤ (ji22)) = true := decide_eq_true c23
                clear c23
                by_cases c24 : (ji22) < (l0.length : Int)
                ·rw [if_pos c24] at H
                 have c24b0 : decide ((ji22) < (l0.length : Int)) = true := decide_eq_true c24
                 clear c24
                 by_cases c25 : (rd l0 (ji22)) = 1
                 ·rw [if_pos c25] at H
                  have c25b0 : ((rd l0 (ji22)) == 1) = true := beq_iff_eq.mpr c25
                  have c25b1 : ((rd l0 (ji22)) != 1) = false := bne_eq_false_iff_eq.mpr c25
                  clear c25
                  have H' := Aside0.mk H
                  clear H
                  have p380 : 0 ≤ (x21_2 : Int) := of_decide_eq_true (by assumption)
                  have q380 : x21_2 < (l0.length : Int) := of_decide_eq_true (by assumption)
                  obtain ⟨ad380, e380, hx380_0⟩ := Kd.at_int HR0.out x21_2 p380 q380
                  cases e380
                  replace hx380_0 := (HB.out.cell (World.block_lt_of_cell? w _ hx380_0)).trans hx380_0
                  replace p380 := eq_true p380
                  replace q380 := eq_true q380
                  obtain ⟨Ao26, co26, eo26⟩ := Kd.R_slice HO_5.out
                  subst eo26
                  have p384 : 0 ≤ ((ji16) : Int) := of_decide_eq_true (by assumption)
                  have q384 : (ji16) < (x5_2.length : Int) := of_decide_eq_true (by assumption)
                  obtain ⟨ad384, e384, hx384_0⟩ := Kd.at_int (Kd.R_reads' HO_5.out).2.2 (ji16) p384 q384
                  cases e384
                  replace p384 := eq_true p384
                  replace q384 := eq_true q384
                  go_wp2_with (first | ((with_reducible refine gate_builtin (b := .append) (xs := #[.tmp 32, .tmp 39]) rfl ?_); (try (refine gate_guard (by rfl) ?_; dsimp only)); at_builtin; refine Kd.R_append (Kd.int .i64) (w0 := w) w.heap.size rfl (.tmp 32) (.tmp 39) 24 3 (.int .i64 0) 8 rfl Try.underlying24 info3 rfl (by decide) (by omega) u4 x4_2 (rd x5_2 (ji16)) [.int .i64 (rd x5_2 (ji16))] (fun k_ => some k_ ≠ (.slice (some ad384) x5_2.length co26 : Value).ownBlock) (fun _ => False) rfl rfl ?aP (fun _ hk => hk.elim) ?aF ?aO ?aB ?aS ?aL ?_; (case aP => exact rfl); (case aB => exact (by repeat (first | (with_reducible first | exact HB.out | apply below_alloc | apply pw_below_drewN | apply below_drew1)))); (case aF => exact (fun k_ hk => Kd.fresh' (Kd.R_lt (by (with_reducible repeat (first | apply Kd.R_alloc | apply Kd.R_drewN | apply Kd.R_drew)); exact HO_5.out)) k_ hk)); (case aO => exact (by (with_reducible repeat (first | apply Kd.R_alloc | apply Kd.R_drewN | apply Kd.R_drew)); exact HO_4.out)); (case aS => exact (below_size (by repeat (first | (with_reducible first | exact HB.out | apply below_alloc | apply pw_below_drewN | apply below_drew1))))); (case aL => have := LMc19.out; omega); intro v386 w27 ho hb hg hat; rw [← Ny385.out] at ho; have n0_ := Aside0.mk (Kd.R_after (ok := (fun _ => True)) (by (with_reducible repeat (first | apply Kd.R_alloc | apply Kd.R_drewN | apply Kd.R_drew)); (first | exact Kd.R_mono HO_5.out (fun _ hk => ⟨trivial, hk⟩) | (have hz_ := Kd.R_mono HO_5.out (fun _ hk => ⟨trivial, hk⟩); (try simp only [ob_] at hz_); (try simp only [ob_]); exact hz_))) hg hat); have n1_ := Aside0.mk (hb); have n2_ := Aside0.mk (ho); clear HO_5; clear HB; clear HO_4; have HO_5 := n0_; have HB := n1_; have HO387 := n2_; clear n0_ n1_ n2_; clear ho hb hg hat; have q28 : ((ji16) : Int) ≤ ((x5_2.length : Int) : Int) := of_decide_eq_true (by assumption); obtain ⟨i028, hi028, _, hsz28, _⟩ := info_parts info3; have hcut28 := cut_to (P := Try.prog) 24 3 .i64 Try.underlying24 hi028 (some ad384) x5_2.length co26 (ji16) (of_decide_eq_true (by assumption)) q28 (Kd.R_reads' HO_5.out).2.1; have hr28 := Kd.R_take (m := ((ji16) : Int).toNat) HO_5.out (by first | omega | (have e_ := (Kd.R_reads' HO_5.out).1; omega)); have hy28 : y388.length = ((ji16) : Int).toNat := (by rw [Ny388.out, List.length_take]; first | omega | (have e_ := (Kd.R_reads' HO_5.out).1; omega)); rw [← Ny388.out] at hr28; rw [← hy28] at hr28 hcut28; clear hy28 hi028 hsz28 HO_5; have HO390 := Aside0.mk hr28; clear hr28; replace q28 := eq_true q28; have p391 : 0 ≤ ((ji22) : Int) := of_decide_eq_true (by assumption); have q391 : (ji22) < (l0.length : Int) := of_decide_eq_true (by assumption); obtain ⟨ad391, e391, hx391_0⟩ := Kd.at_int HR0.out (ji22) p391 q391; obtain rfl : ad380 = ad391 := (by injection e391); replace hx391_0 := (HB.out.cell (World.block_lt_of_cell? w _ hx391_0)).trans hx391_0; replace p391 := eq_true p391; replace q391 := eq_true q391))
                  go_roundg k2
                  case measure => have := HJ1.out; have := HK2.out; omega
                  case rel => exact ⟨(y385), (y388), (wrap64 (x6_2 + 1)), (wrap64 (x21_2 + 1)), (by first | rfl | (simp; done) | (simp [*]; done)), (by first | rfl | (simp; done) | (simp [*]; done)), H', ⟨by have := HJ1.out; have := HK2.out; omega⟩, ⟨by (with_reducible repeat (first | apply Kd.R_alloc | apply Kd.R_drewN | apply Kd.R_drew)); exact HO387.out⟩, ⟨by (with_reducible repeat (first | apply Kd.R_alloc | apply Kd.R_drewN | apply Kd.R_drew)); (first | exact Kd.R_mono HO390.out (fun _ hk => hk.2) | (have hz_ := Kd.R_mono HO390.out (fun _ hk => hk.2); (try simp only [ob_] at hz_); (try simp only [ob_]); exact hz_))⟩, ⟨by repeat (first | (with_reducible first | exact HB.out | apply below_alloc | apply pw_below_drewN | apply below_drew1) | exact HB.out)⟩⟩
                 ·rw [if_neg c25] at H
                  have c25b0 : ((rd l0 (ji22)) == 1) = false := beq_eq_false_iff_ne.mpr c25
                  have c25b1 : ((rd l0 (ji22)) != 1) = true := bne_iff_ne.mpr c25
                  have H' := Aside0.mk H
                  clear H
                  have p380 : 0 ≤ (x21_2 : Int) := of_decide_eq_true (by assumption)
                  have q380 : x21_2 < (l0.length : Int) := of_decide_eq_true (by assumption)
                  obtain ⟨ad380, e380, hx380_0⟩ := Kd.at_int HR0.out x21_2 p380 q380
                  cases e380
                  replace hx380_0 := (HB.out.cell (World.block_lt_of_cell? w _ hx380_0)).trans hx380_0
                  replace p380 := eq_true p380
                  replace q380 := eq_true q380
                  obtain ⟨Ao29, co29, eo29⟩ := Kd.R_slice HO_5.out
                  subst eo29
                  have p384 : 0 ≤ ((ji16) : Int) := of_decide_eq_true (by assumption)
                  have q384 : (ji16) < (x5_2.length : Int) := of_decide_eq_true (by assumption)
                  obtain ⟨ad384, e384, hx384_0⟩ := Kd.at_int (Kd.R_reads' HO_5.out).2.2 (ji16) p384 q384
                  cases e384
                  replace p384 := eq_true p384
                  replace q384 := eq_true q384
                  go_wp2_with (first | ((with_reducible refine gate_builtin (b := .append) (xs := #[.tmp 32, .tmp 39]) rfl ?_); (try (refine gate_guard (by rfl) ?_; dsimp only)); at_builtin; refine Kd.R_append (Kd.int .i64) (w0 := w) w.heap.size rfl (.tmp 32) (.tmp 39) 24 3 (.int .i64 0) 8 rfl Try.underlying24 info3 rfl (by decide) (by omega) u4 x4_2 (rd x5_2 (ji16)) [.int .i64 (rd x5_2 (ji16))] (fun k_ => some k_ ≠ (.slice (some ad384) x5_2.length co29 : Value).ownBlock) (fun _ => False) rfl rfl ?aP (fun _ hk => hk.elim) ?aF ?aO ?aB ?aS ?aL ?_; (case aP => exact rfl); (case aB => exact (by repeat (first | (with_reducible first | exact HB.out | apply below_alloc | apply pw_below_drewN | apply below_drew1)))); (case aF => exact (fun k_ hk => Kd.fresh' (Kd.R_lt (by (with_reducible repeat (first | apply Kd.R_alloc | apply Kd.R_drewN | apply Kd.R_drew)); exact HO_5.out)) k_ hk)); (case aO => exact (by (with_reducible repeat (first | apply Kd.R_alloc | apply Kd.R_drewN | apply Kd.R_drew)); exact HO_4.out)); (case aS => exact (below_size (by repeat (first | (with_reducible first | exact HB.out | apply below_alloc | apply pw_below_drewN | apply below_drew1))))); (case aL => have := LMc19.out; omega); intro v386 w30 ho hb hg hat; rw [← Ny385.out] at ho; have n0_ := Aside0.mk (Kd.R_after (ok := (fun _ => True)) (by (with_reducible repeat (first | apply Kd.R_alloc | apply Kd.R_drewN | apply Kd.R_drew)); (first | exact Kd.R_mono HO_5.out (fun _ hk => ⟨trivial, hk⟩) | (have hz_ := Kd.R_mono HO_5.out (fun _ hk => ⟨trivial, hk⟩); (try simp only [ob_] at hz_); (try simp only [ob_]); exact hz_))) hg hat); have n1_ := Aside0.mk (hb); have n2_ := Aside0.mk (ho); clear HO_5; clear HB; clear HO_4; have HO_5 := n0_; have HB := n1_; have HO387 := n2_; clear n0_ n1_ n2_; clear ho hb hg hat; have q31 : ((ji16) : Int) ≤ ((x5_2.length : Int) : Int) := of_decide_eq_true (by assumption); obtain ⟨i031, hi031, _, hsz31, _⟩ := info_parts info3; have hcut31 := cut_to (P := Try.prog) 24 3 .i64 Try.underlying24 hi031 (some ad384) x5_2.length co29 (ji16) (of_decide_eq_true (by assumption)) q31 (Kd.R_reads' HO_5.out).2.1; have hr31 := Kd.R_take (m := ((ji16) : Int).toNat) HO_5.out (by first | omega | (have e_ := (Kd.R_reads' HO_5.out).1; omega)); have hy31 : y388.length = ((ji16) : Int).toNat := (by rw [Ny388.out, List.length_take]; first | omega | (have e_ := (Kd.R_reads' HO_5.out).1; omega)); rw [← Ny388.out] at hr31; rw [← hy31] at hr31 hcut31; clear hy31 hi031 hsz31 HO_5; have HO390 := Aside0.mk hr31; clear hr31; replace q31 := eq_true q31; have p391 : 0 ≤ ((ji22) : Int) := of_decide_eq_true (by assumption); have q391 : (ji22) < (l0.length : Int) := of_decide_eq_true (by assumption); obtain ⟨ad391, e391, hx391_0⟩ := Kd.at_int HR0.out (ji22) p391 q391; obtain rfl : ad380 = ad391 := (by injection e391); replace hx391_0 := (HB.out.cell (World.block_lt_of_cell? w _ hx391_0)).trans hx391_0; replace p391 := eq_true p391; replace q391 := eq_true q391))
                  go_roundg k2
                  case measure => have := HJ1.out; have := HK2.out; omega
                  case rel => exact ⟨(y385), (y388), (x6_2), (wrap64 (x21_2 + 1)), (by first | rfl | (simp; done) | (simp [*]; done)), (by first | rfl | (simp; done) | (simp [*]; done)), H', ⟨by have := HJ1.out; have := HK2.out; omega⟩, ⟨by (with_reducible repeat (first | apply Kd.R_alloc | apply Kd.R_drewN | apply Kd.R_drew)); exact HO387.out⟩, ⟨by (with_reducible repeat (first | apply Kd.R_alloc | apply Kd.R_drewN | apply Kd.R_drew)); (first | exact Kd.R_mono HO390.out (fun _ hk => hk.2) | (have hz_ := Kd.R_mono HO390.out (fun _ hk => hk.2); (try simp only [ob_] at hz_); (try simp only [ob_]); exact hz_))⟩, ⟨by repeat (first | (with_reducible first | exact HB.out | apply below_alloc | apply pw_below_drewN | apply below_drew1) | exact HB.out)⟩⟩
                ·rw [if_neg c24] at H
                 exact absurd H (by simp)
               ·rw [if_neg c23] at H
                exact absurd H (by simp)
              ·rw [if_neg c21] at H
               have c21b0 : decide (0 < x21_2) = false := decide_eq_false c21
               clear c21
               have H' := Aside0.mk H
               clear H
               have p380 : 0 ≤ (x21_2 : Int) := of_decide_eq_true (by assumption)
               have q380 : x21_2 < (l0.length : Int) := of_decide_eq_true (by assumption)
               obtain ⟨ad380, e380, hx380_0⟩ := Kd.at_int HR0.out x21_2 p380 q380
               cases e380
               replace hx380_0 := (HB.out.cell (World.block_lt_of_cell? w _ hx380_0)).trans hx380_0
               replace p380 := eq_true p380
               replace q380 := eq_true q380
               obtain ⟨Ao32, co32, eo32⟩ := Kd.R_slice HO_5.out
               subst eo32
               have p384 : 0 ≤ ((ji16) : Int) := of_decide_eq_true (by assumption)
               have q384 : (ji16) < (x5_2.length : Int) := of_decide_eq_true (by assumption)
               obtain ⟨ad384, e384, hx384_0⟩ := Kd.at_int (Kd.R_reads' HO_5.out).2.2 (ji16) p384 q384
               cases e384
               replace p384 := eq_true p384
               replace q384 := eq_true q384
               go_wp2_with (first | ((with_reducible refine gate_builtin (b := .append) (xs := #[.tmp 32, .tmp 39]) rfl ?_); (try (refine gate_guard (by rfl) ?_; dsimp only)); at_builtin; refine Kd.R_append (Kd.int .i64) (w0 := w) w.heap.size rfl (.tmp 32) (.tmp 39) 24 3 (.int .i64 0) 8 rfl Try.underlying24 info3 rfl (by decide) (by omega) u4 x4_2 (rd x5_2 (ji16)) [.int .i64 (rd x5_2 (ji16))] (fun k_ => some k_ ≠ (.slice (some ad384) x5_2.length co32 : Value).ownBlock) (fun _ => False) rfl rfl ?aP (fun _ hk => hk.elim) ?aF ?aO ?aB ?aS ?aL ?_; (case aP => exact rfl); (case aB => exact (by repeat (first | (with_reducible first | exact HB.out | apply below_alloc | apply pw_below_drewN | apply below_drew1)))); (case aF => exact (fun k_ hk => Kd.fresh' (Kd.R_lt (by (with_reducible repeat (first | apply Kd.R_alloc | apply Kd.R_drewN | apply Kd.R_drew)); exact HO_5.out)) k_ hk)); (case aO => exact (by (with_reducible repeat (first | apply Kd.R_alloc | apply Kd.R_drewN | apply Kd.R_drew)); exact HO_4.out)); (case aS => exact (below_size (by repeat (first | (with_reducible first | exact HB.out | apply below_alloc | apply pw_below_drewN | apply below_drew1))))); (case aL => have := LMc19.out; omega); intro v386 w33 ho hb hg hat; rw [← Ny385.out] at ho; have n0_ := Aside0.mk (Kd.R_after (ok := (fun _ => True)) (by (with_reducible repeat (first | apply Kd.R_alloc | apply Kd.R_drewN | apply Kd.R_drew)); (first | exact Kd.R_mono HO_5.out (fun _ hk => ⟨trivial, hk⟩) | (have hz_ := Kd.R_mono HO_5.out (fun _ hk => ⟨trivial, hk⟩); (try simp only [ob_] at hz_); (try simp only [ob_]); exact hz_))) hg hat); have n1_ := Aside0.mk (hb); have n2_ := Aside0.mk (ho); clear HO_5; clear HB; clear HO_4; have HO_5 := n0_; have HB := n1_; have HO387 := n2_; clear n0_ n1_ n2_; clear ho hb hg hat; have q34 : ((ji16) : Int) ≤ ((x5_2.length : Int) : Int) := of_decide_eq_true (by assumption); obtain ⟨i034, hi034, _, hsz34, _⟩ := info_parts info3; have hcut34 := cut_to (P := Try.prog) 24 3 .i64 Try.underlying24 hi034 (some ad384) x5_2.length co32 (ji16) (of_decide_eq_true (by assumption)) q34 (Kd.R_reads' HO_5.out).2.1; have hr34 := Kd.R_take (m := ((ji16) : Int).toNat) HO_5.out (by first | omega | (have e_ := (Kd.R_reads' HO_5.out).1; omega)); have hy34 : y388.length = ((ji16) : Int).toNat := (by rw [Ny388.out, List.length_take]; first | omega | (have e_ := (Kd.R_reads' HO_5.out).1; omega)); rw [← Ny388.out] at hr34; rw [← hy34] at hr34 hcut34; clear hy34 hi034 hsz34 HO_5; have HO390 := Aside0.mk hr34; clear hr34; replace q34 := eq_true q34))
               go_roundg k2
               case measure => have := HJ1.out; have := HK2.out; omega
               case rel => exact ⟨(y385), (y388), (x6_2), (wrap64 (x21_2 + 1)), (by first | rfl | (simp; done) | (simp [*]; done)), (by first | rfl | (simp; done) | (simp [*]; done)), H', ⟨by have := HJ1.out; have := HK2.out; omega⟩, ⟨by (with_reducible repeat (first | apply Kd.R_alloc | apply Kd.R_drewN | apply Kd.R_drew)); exact HO387.out⟩, ⟨by (with_reducible repeat (first | apply Kd.R_alloc | apply Kd.R_drewN | apply Kd.R_drew)); (first | exact Kd.R_mono HO390.out (fun _ hk => hk.2) | (have hz_ := Kd.R_mono HO390.out (fun _ hk => hk.2); (try simp only [ob_] at hz_); (try simp only [ob_]); exact hz_))⟩, ⟨by repeat (first | (with_reducible first | exact HB.out | apply below_alloc | apply pw_below_drewN | apply below_drew1) | exact HB.out)⟩⟩
             ·rw [if_neg c20] at H
              exact absurd H (by simp)
            ·rw [if_neg c19] at H
             exact absurd H (by simp)
           ·rw [if_neg c18] at H
            exact absurd H (by simp)
          ·rw [if_neg c17] at H
           exact absurd H (by simp)
        ·rw [if_neg c12] at H
         exact absurd H (by simp)
       ·rw [if_neg c11] at H
        exact absurd H (by simp)
      ·rw [if_neg c10] at H
       have c10b0 : decide (x21_2 < (l0.length : Int)) = false := decide_eq_false c10
       clear c10
       simp only [Option.some.injEq, Prod.mk.injEq] at H
       obtain ⟨rfl, rfl⟩ := H
       go_wp2
       go_ret2
       exact ⟨_, by first | rfl | (simp <;> rfl) | (simp [*] <;> rfl), by (with_reducible repeat (first | apply Kd.R_alloc | apply Kd.R_drewN | apply Kd.R_drew)); exact Kd.R_mono HO_4.out (fun _ hk => trivial), by repeat (first | (with_reducible first | exact HB.out | apply below_alloc | apply pw_below_drewN | apply below_drew1) | exact HB.out)⟩

end Go.Proofs.Ytoledgkfohkfkaa.HFnBlocksAreGrowths
