/- Written by this session's program hprint.py out of the loaded functions: what each function computes, and the proof that the machine's call does just that. -/
import Derived.Test.YthaplgbhhppniaaHFnPartedNumbersx0
import Derived.Test.YthaplgbhhppniaaHFnPartedNumbersx1
import Derived.Test.YthaplgbhhppniaaHFnPartedNumbersx2
import Derived.Test.YthaplgbhhppniaaHFnPartedNumbersx3
import Derived.Test.YthaplgbhhppniaaHFnPartedNumbersx4
import Derived.Test.YthaplgbhhppniaaHFnPartedNumbersx5
namespace Go.Proofs.Ythaplgbhhppniaa.HFnPartedNumbers
open Go.RowKit Go.Proofs.YthaplgbhhppniaaW.PrintWords Go.Proofs.YthaplgbhhppniaaW.PrintLast Go.Proofs.YthaplgbhhppniaaW.PrintMore
attribute [local go_sem] max2_int min2_int max_two min_two max_three min_three max_four min_four   -- for this text's walks alone
set_option linter.unusedVariables false
set_option linter.unusedSimpArgs false

/-! ### laws_FnPartedNumbers: function 14 -/
mutual
def laws_FnPartedNumbers.j0 : Nat → Int → Int → List Int → Bool → Bool → Option (Bool)
  | 0, _, _, _, _, _ => none
  | k + 1, x5, x6, x7, x8, x57 => if x57 = true then (some false) else ((impl_CountParted.f k x5 x5).bind fun bt235 => (if bt235.2 = true then (if x6 ≥ 0 then (laws_FnPartedNumbers.j1 k x5 x6 x7 x8 bt235.1 (x8 != (decide (x6 < bt235.1)))) else (laws_FnPartedNumbers.j1 k x5 x6 x7 x8 bt235.1 (x8 != false))) else (laws_FnPartedNumbers.j1 k x5 x6 x7 x8 bt235.1 (x8 != false))))
def laws_FnPartedNumbers.j1 : Nat → Int → Int → List Int → Bool → Int → Bool → Option (Bool)
  | 0, _, _, _, _, _, _ => none
  | k + 1, x5, x6, x7, x8, x11, x75 => if x75 = true then (some false) else (if x8 = true then ((impl_RankParted.f k x7).bind fun bt237 => ((impl_PartedWith.f k x5 (wrap64 (x6 + 1))).bind fun bt239 => ((impl_ConjugateOf.f k x7).bind fun bt243 => ((impl_ConjugateOf.f k bt243.1).bind fun bt247 => (if bt237.2 = true then (if bt243.2 = true then (if bt247.2 = true then (if bt237.1 = x6 then ((impl_IsParted.f k x7).bind fun t251 => (if t251 = true then ((laws_tSum.f k x7).bind fun t252 => (if t252 = x5 then ((laws_tSum.f k bt243.1).bind fun t253 => (if t253 = x5 then ((laws_tSame.f k bt247.1 x7).bind fun t254 => (if t254 = true then (if (bt239.2 != (decide ((wrap64 (x6 + 1)) < x11))) = true then (laws_FnPartedNumbers.j2 k x5 x6 x7 x11 true) else (if bt239.2 = true then ((laws_tLess.f k bt239.1 x7).bind fun t255 => (laws_FnPartedNumbers.j2 k x5 x6 x7 x11 (!t255))) else (laws_FnPartedNumbers.j2 k x5 x6 x7 x11 false))) else (laws_FnPartedNumbers.j2 k x5 x6 x7 x11 true))) else (laws_FnPartedNumbers.j2 k x5 x6 x7 x11 true))) else (laws_FnPartedNumbers.j2 k x5 x6 x7 x11 true))) else (laws_FnPartedNumbers.j2 k x5 x6 x7 x11 true))) else (laws_FnPartedNumbers.j2 k x5 x6 x7 x11 true)) else (laws_FnPartedNumbers.j2 k x5 x6 x7 x11 true)) else (laws_FnPartedNumbers.j2 k x5 x6 x7 x11 true)) else (laws_FnPartedNumbers.j2 k x5 x6 x7 x11 true)))))) else (some true))
def laws_FnPartedNumbers.j2 : Nat → Int → Int → List Int → Int → Bool → Option (Bool)
  | 0, _, _, _, _, _ => none
  | k + 1, x5, x6, x7, x11, x154 => if x154 = true then (some false) else ((impl_CountParted.f k x5 (x7.length : Int)).bind fun bt256 => ((impl_PartedOf.f k x5).bind fun bt258 => (if bt256.2 = true then (if bt258.2 = true then (if (bt258.1.length : Int) = x11 then (if 0 ≤ x6 then (if x6 < (bt258.1.length : Int) then ((laws_tSame.f k (rd_L1 bt258.1 x6) x7).bind fun t263 => (laws_FnPartedNumbers.j3 k (x7.length : Int) bt256.1 bt258.1 (!t263))) else (none)) else (none)) else (laws_FnPartedNumbers.j3 k (x7.length : Int) bt256.1 bt258.1 true)) else (laws_FnPartedNumbers.j3 k (x7.length : Int) bt256.1 bt258.1 true)) else (laws_FnPartedNumbers.j3 k (x7.length : Int) bt256.1 bt258.1 true))))
def laws_FnPartedNumbers.j3 : Nat → Int → Int → List (List Int) → Bool → Option (Bool)
  | 0, _, _, _, _ => none
  | k + 1, x21, x22, x24, x188 => if x188 = true then (some false) else (laws_FnPartedNumbers.l0 k x21 x22 0 x24 (x24.length : Int) 0)
def laws_FnPartedNumbers.l0 : Nat → Int → Int → Int → List (List Int) → Int → Int → Option (Bool)
  | 0, _, _, _, _, _, _ => none
  | k + 1, x21, x22, x26, x189, x190, x191 => if x191 < x190 then (if 0 ≤ x191 then (if x191 < (x189.length : Int) then (if ((rd_L1 x189 x191).length : Int) ≤ x21 then (laws_FnPartedNumbers.l0 k x21 x22 (wrap64 (x26 + 1)) x189 x190 (wrap64 (x191 + 1))) else (laws_FnPartedNumbers.l0 k x21 x22 x26 x189 x190 (wrap64 (x191 + 1)))) else (none)) else (none)) else (some (x26 == x22))
end
def laws_FnPartedNumbers.f (k : Nat) (l0 : List Int) (l1 : List Int) : Option (Bool) := (laws_big.f l0 l1).bind fun t223 => (if t223 = true then (some true) else ((spec_DrawPartedWith.f k l0).bind fun bt224 => ((impl_PartedWith.f k bt224.1 bt224.2).bind fun bt226 => ((spec_PartedWith.f k bt224.1 bt224.2).bind fun bt230 => (if (bt226.2 != bt230.2) = true then (laws_FnPartedNumbers.j0 k bt224.1 bt224.2 bt226.1 bt226.2 true) else ((laws_tSame.f k bt226.1 bt230.1).bind fun t234 => (laws_FnPartedNumbers.j0 k bt224.1 bt224.2 bt226.1 bt226.2 (!t234))))))))
theorem laws_FnPartedNumbers.mono_l : ∀ k, (∀ y0 y1 y2 y3 y4, LeO (laws_FnPartedNumbers.j0 k y0 y1 y2 y3 y4) (laws_FnPartedNumbers.j0 (k + 1) y0 y1 y2 y3 y4)) ∧ (∀ y0 y1 y2 y3 y4 y5, LeO (laws_FnPartedNumbers.j1 k y0 y1 y2 y3 y4 y5) (laws_FnPartedNumbers.j1 (k + 1) y0 y1 y2 y3 y4 y5)) ∧ (∀ y0 y1 y2 y3 y4, LeO (laws_FnPartedNumbers.j2 k y0 y1 y2 y3 y4) (laws_FnPartedNumbers.j2 (k + 1) y0 y1 y2 y3 y4)) ∧ (∀ y0 y1 y2 y3, LeO (laws_FnPartedNumbers.j3 k y0 y1 y2 y3) (laws_FnPartedNumbers.j3 (k + 1) y0 y1 y2 y3)) ∧ (∀ y0 y1 y2 y3 y4 y5, LeO (laws_FnPartedNumbers.l0 k y0 y1 y2 y3 y4 y5) (laws_FnPartedNumbers.l0 (k + 1) y0 y1 y2 y3 y4 y5))
  | 0 => ⟨fun _ _ _ _ _ r h => by simp [laws_FnPartedNumbers.j0] at h, fun _ _ _ _ _ _ r h => by simp [laws_FnPartedNumbers.j1] at h, fun _ _ _ _ _ r h => by simp [laws_FnPartedNumbers.j2] at h, fun _ _ _ _ r h => by simp [laws_FnPartedNumbers.j3] at h, fun _ _ _ _ _ _ r h => by simp [laws_FnPartedNumbers.l0] at h⟩
  | k + 1 => by
    obtain ⟨ih0, ih1, ih2, ih3, ih4⟩ := laws_FnPartedNumbers.mono_l k
    refine ⟨?_, ?_, ?_, ?_, ?_⟩
    · intro y0 y1 y2 y3 y4
      unfold laws_FnPartedNumbers.j0
      repeat' first
      | (with_reducible exact ih0 _ _ _ _ _)
      | (with_reducible exact ih1 _ _ _ _ _ _)
      | (with_reducible exact ih2 _ _ _ _ _)
      | (with_reducible exact ih3 _ _ _ _)
      | (with_reducible exact ih4 _ _ _ _ _ _)
      | (with_reducible exact impl_ConjugateOf.mono _ _)
      | (with_reducible exact impl_CountParted.mono _ _ _)
      | (with_reducible exact impl_IsParted.mono _ _)
      | (with_reducible exact impl_PartedOf.mono _ _)
      | (with_reducible exact impl_PartedWith.mono _ _ _)
      | (with_reducible exact impl_RankParted.mono _ _)
      | (with_reducible exact laws_tLess.mono _ _ _)
      | (with_reducible exact laws_tSame.mono _ _ _)
      | (with_reducible exact laws_tSum.mono _ _)
      | (with_reducible exact spec_DrawPartedWith.mono _ _)
      | (with_reducible exact spec_PartedWith.mono _ _ _)
      | (with_reducible exact LeO.refl _)
      | (with_reducible exact LeO.none _)
      | (with_reducible refine LeO.ite ?_ ?_)
      | (with_reducible refine LeO.bind ?_ (fun _ => ?_))
      | exact ih0 _ _ _ _ _
      | exact ih1 _ _ _ _ _ _
      | exact ih2 _ _ _ _ _
      | exact ih3 _ _ _ _
      | exact ih4 _ _ _ _ _ _
      | exact impl_ConjugateOf.mono _ _
      | exact impl_CountParted.mono _ _ _
      | exact impl_IsParted.mono _ _
      | exact impl_PartedOf.mono _ _
      | exact impl_PartedWith.mono _ _ _
      | exact impl_RankParted.mono _ _
      | exact laws_tLess.mono _ _ _
      | exact laws_tSame.mono _ _ _
      | exact laws_tSum.mono _ _
      | exact spec_DrawPartedWith.mono _ _
      | exact spec_PartedWith.mono _ _ _
      | exact LeO.none _
      | refine LeO.ite ?_ ?_
      | refine LeO.bind ?_ (fun _ => ?_)
    · intro y0 y1 y2 y3 y4 y5
      unfold laws_FnPartedNumbers.j1
      repeat' first
      | (with_reducible exact ih0 _ _ _ _ _)
      | (with_reducible exact ih1 _ _ _ _ _ _)
      | (with_reducible exact ih2 _ _ _ _ _)
      | (with_reducible exact ih3 _ _ _ _)
      | (with_reducible exact ih4 _ _ _ _ _ _)
      | (with_reducible exact impl_ConjugateOf.mono _ _)
      | (with_reducible exact impl_CountParted.mono _ _ _)
      | (with_reducible exact impl_IsParted.mono _ _)
      | (with_reducible exact impl_PartedOf.mono _ _)
      | (with_reducible exact impl_PartedWith.mono _ _ _)
      | (with_reducible exact impl_RankParted.mono _ _)
      | (with_reducible exact laws_tLess.mono _ _ _)
      | (with_reducible exact laws_tSame.mono _ _ _)
      | (with_reducible exact laws_tSum.mono _ _)
      | (with_reducible exact spec_DrawPartedWith.mono _ _)
      | (with_reducible exact spec_PartedWith.mono _ _ _)
      | (with_reducible exact LeO.refl _)
      | (with_reducible exact LeO.none _)
      | (with_reducible refine LeO.ite ?_ ?_)
      | (with_reducible refine LeO.bind ?_ (fun _ => ?_))
      | exact ih0 _ _ _ _ _
      | exact ih1 _ _ _ _ _ _
      | exact ih2 _ _ _ _ _
      | exact ih3 _ _ _ _
      | exact ih4 _ _ _ _ _ _
      | exact impl_ConjugateOf.mono _ _
      | exact impl_CountParted.mono _ _ _
      | exact impl_IsParted.mono _ _
      | exact impl_PartedOf.mono _ _
      | exact impl_PartedWith.mono _ _ _
      | exact impl_RankParted.mono _ _
      | exact laws_tLess.mono _ _ _
      | exact laws_tSame.mono _ _ _
      | exact laws_tSum.mono _ _
      | exact spec_DrawPartedWith.mono _ _
      | exact spec_PartedWith.mono _ _ _
      | exact LeO.none _
      | refine LeO.ite ?_ ?_
      | refine LeO.bind ?_ (fun _ => ?_)
    · intro y0 y1 y2 y3 y4
      unfold laws_FnPartedNumbers.j2
      repeat' first
      | (with_reducible exact ih0 _ _ _ _ _)
      | (with_reducible exact ih1 _ _ _ _ _ _)
      | (with_reducible exact ih2 _ _ _ _ _)
      | (with_reducible exact ih3 _ _ _ _)
      | (with_reducible exact ih4 _ _ _ _ _ _)
      | (with_reducible exact impl_ConjugateOf.mono _ _)
      | (with_reducible exact impl_CountParted.mono _ _ _)
      | (with_reducible exact impl_IsParted.mono _ _)
      | (with_reducible exact impl_PartedOf.mono _ _)
      | (with_reducible exact impl_PartedWith.mono _ _ _)
      | (with_reducible exact impl_RankParted.mono _ _)
      | (with_reducible exact laws_tLess.mono _ _ _)
      | (with_reducible exact laws_tSame.mono _ _ _)
      | (with_reducible exact laws_tSum.mono _ _)
      | (with_reducible exact spec_DrawPartedWith.mono _ _)
      | (with_reducible exact spec_PartedWith.mono _ _ _)
      | (with_reducible exact LeO.refl _)
      | (with_reducible exact LeO.none _)
      | (with_reducible refine LeO.ite ?_ ?_)
      | (with_reducible refine LeO.bind ?_ (fun _ => ?_))
      | exact ih0 _ _ _ _ _
      | exact ih1 _ _ _ _ _ _
      | exact ih2 _ _ _ _ _
      | exact ih3 _ _ _ _
      | exact ih4 _ _ _ _ _ _
      | exact impl_ConjugateOf.mono _ _
      | exact impl_CountParted.mono _ _ _
      | exact impl_IsParted.mono _ _
      | exact impl_PartedOf.mono _ _
      | exact impl_PartedWith.mono _ _ _
      | exact impl_RankParted.mono _ _
      | exact laws_tLess.mono _ _ _
      | exact laws_tSame.mono _ _ _
      | exact laws_tSum.mono _ _
      | exact spec_DrawPartedWith.mono _ _
      | exact spec_PartedWith.mono _ _ _
      | exact LeO.none _
      | refine LeO.ite ?_ ?_
      | refine LeO.bind ?_ (fun _ => ?_)
    · intro y0 y1 y2 y3
      unfold laws_FnPartedNumbers.j3
      repeat' first
      | (with_reducible exact ih0 _ _ _ _ _)
      | (with_reducible exact ih1 _ _ _ _ _ _)
      | (with_reducible exact ih2 _ _ _ _ _)
      | (with_reducible exact ih3 _ _ _ _)
      | (with_reducible exact ih4 _ _ _ _ _ _)
      | (with_reducible exact impl_ConjugateOf.mono _ _)
      | (with_reducible exact impl_CountParted.mono _ _ _)
      | (with_reducible exact impl_IsParted.mono _ _)
      | (with_reducible exact impl_PartedOf.mono _ _)
      | (with_reducible exact impl_PartedWith.mono _ _ _)
      | (with_reducible exact impl_RankParted.mono _ _)
      | (with_reducible exact laws_tLess.mono _ _ _)
      | (with_reducible exact laws_tSame.mono _ _ _)
      | (with_reducible exact laws_tSum.mono _ _)
      | (with_reducible exact spec_DrawPartedWith.mono _ _)
      | (with_reducible exact spec_PartedWith.mono _ _ _)
      | (with_reducible exact LeO.refl _)
      | (with_reducible exact LeO.none _)
      | (with_reducible refine LeO.ite ?_ ?_)
      | (with_reducible refine LeO.bind ?_ (fun _ => ?_))
      | exact ih0 _ _ _ _ _
      | exact ih1 _ _ _ _ _ _
      | exact ih2 _ _ _ _ _
      | exact ih3 _ _ _ _
      | exact ih4 _ _ _ _ _ _
      | exact impl_ConjugateOf.mono _ _
      | exact impl_CountParted.mono _ _ _
      | exact impl_IsParted.mono _ _
      | exact impl_PartedOf.mono _ _
      | exact impl_PartedWith.mono _ _ _
      | exact impl_RankParted.mono _ _
      | exact laws_tLess.mono _ _ _
      | exact laws_tSame.mono _ _ _
      | exact laws_tSum.mono _ _
      | exact spec_DrawPartedWith.mono _ _
      | exact spec_PartedWith.mono _ _ _
      | exact LeO.none _
      | refine LeO.ite ?_ ?_
      | refine LeO.bind ?_ (fun _ => ?_)
    · intro y0 y1 y2 y3 y4 y5
      unfold laws_FnPartedNumbers.l0
      repeat' first
      | (with_reducible exact ih0 _ _ _ _ _)
      | (with_reducible exact ih1 _ _ _ _ _ _)
      | (with_reducible exact ih2 _ _ _ _ _)
      | (with_reducible exact ih3 _ _ _ _)
      | (with_reducible exact ih4 _ _ _ _ _ _)
      | (with_reducible exact impl_ConjugateOf.mono _ _)
      | (with_reducible exact impl_CountParted.mono _ _ _)
      | (with_reducible exact impl_IsParted.mono _ _)
      | (with_reducible exact impl_PartedOf.mono _ _)
      | (with_reducible exact impl_PartedWith.mono _ _ _)
      | (with_reducible exact impl_RankParted.mono _ _)
      | (with_reducible exact laws_tLess.mono _ _ _)
      | (with_reducible exact laws_tSame.mono _ _ _)
      | (with_reducible exact laws_tSum.mono _ _)
      | (with_reducible exact spec_DrawPartedWith.mono _ _)
      | (with_reducible exact spec_PartedWith.mono _ _ _)
      | (with_reducible exact LeO.refl _)
      | (with_reducible exact LeO.none _)
      | (with_reducible refine LeO.ite ?_ ?_)
      | (with_reducible refine LeO.bind ?_ (fun _ => ?_))
      | exact ih0 _ _ _ _ _
      | exact ih1 _ _ _ _ _ _
      | exact ih2 _ _ _ _ _
      | exact ih3 _ _ _ _
      | exact ih4 _ _ _ _ _ _
      | exact impl_ConjugateOf.mono _ _
      | exact impl_CountParted.mono _ _ _
      | exact impl_IsParted.mono _ _
      | exact impl_PartedOf.mono _ _
      | exact impl_PartedWith.mono _ _ _
      | exact impl_RankParted.mono _ _
      | exact laws_tLess.mono _ _ _
      | exact laws_tSame.mono _ _ _
      | exact laws_tSum.mono _ _
      | exact spec_DrawPartedWith.mono _ _
      | exact spec_PartedWith.mono _ _ _
      | exact LeO.none _
      | refine LeO.ite ?_ ?_
      | refine LeO.bind ?_ (fun _ => ?_)
theorem laws_FnPartedNumbers.mono : ∀ a0 a1 k, LeO (laws_FnPartedNumbers.f k a0 a1) (laws_FnPartedNumbers.f (k + 1) a0 a1) := by
  intro a0 a1 k
  obtain ⟨ih0, ih1, ih2, ih3, ih4⟩ := laws_FnPartedNumbers.mono_l k
  unfold laws_FnPartedNumbers.f
  repeat' first
      | (with_reducible exact ih0 _ _ _ _ _)
      | (with_reducible exact ih1 _ _ _ _ _ _)
      | (with_reducible exact ih2 _ _ _ _ _)
      | (with_reducible exact ih3 _ _ _ _)
      | (with_reducible exact ih4 _ _ _ _ _ _)
      | (with_reducible exact impl_ConjugateOf.mono _ _)
      | (with_reducible exact impl_CountParted.mono _ _ _)
      | (with_reducible exact impl_IsParted.mono _ _)
      | (with_reducible exact impl_PartedOf.mono _ _)
      | (with_reducible exact impl_PartedWith.mono _ _ _)
      | (with_reducible exact impl_RankParted.mono _ _)
      | (with_reducible exact laws_tLess.mono _ _ _)
      | (with_reducible exact laws_tSame.mono _ _ _)
      | (with_reducible exact laws_tSum.mono _ _)
      | (with_reducible exact spec_DrawPartedWith.mono _ _)
      | (with_reducible exact spec_PartedWith.mono _ _ _)
      | (with_reducible exact LeO.refl _)
      | (with_reducible exact LeO.none _)
      | (with_reducible refine LeO.ite ?_ ?_)
      | (with_reducible refine LeO.bind ?_ (fun _ => ?_))
      | exact ih0 _ _ _ _ _
      | exact ih1 _ _ _ _ _ _
      | exact ih2 _ _ _ _ _
      | exact ih3 _ _ _ _
      | exact ih4 _ _ _ _ _ _
      | exact impl_ConjugateOf.mono _ _
      | exact impl_CountParted.mono _ _ _
      | exact impl_IsParted.mono _ _
      | exact impl_PartedOf.mono _ _
      | exact impl_PartedWith.mono _ _ _
      | exact impl_RankParted.mono _ _
      | exact laws_tLess.mono _ _ _
      | exact laws_tSame.mono _ _ _
      | exact laws_tSum.mono _ _
      | exact spec_DrawPartedWith.mono _ _
      | exact spec_PartedWith.mono _ _ _
      | exact LeO.none _
      | refine LeO.ite ?_ ?_
      | refine LeO.bind ?_ (fun _ => ?_)
set_option maxHeartbeats 8000000 in
set_option maxRecDepth 100000 in
theorem laws_FnPartedNumbers.calls (k : Nat) (A0 : Option Addr) (c0 : Nat) (l0 : List Int) (A1 : Option Addr) (c1 : Nat) (l1 : List Int) (r : Bool) (w : World) (hr0 : Kd.C (Kd.int .u8) w A0 l0.length l0) (hc0 : l0.length ≤ c0) (hr1 : Kd.C (Kd.int .u8) w A1 l1.length l1) (hc1 : l1.length ≤ c1) (h : laws_FnPartedNumbers.f k l0 l1 = some r) :
    Calls Try.prog 14 #[.slice A0 l0.length c0, .slice A1 l1.length c1] w fun e w' => e = .returned (.bool r) ∧ Below w.heap.size w w' := by
  have HR0 := Aside0.mk hr0
  have HC0 := Aside0.mk hc0
  clear hr0 hc0
  have HR1 := Aside0.mk hr1
  have HC1 := Aside0.mk hc1
  clear hr1 hc1
  have HB := Aside0.mk (Below.refl w.heap.size w)
  have H : ((laws_big.f l0 l1).bind fun t223 => (if t223 = true then (some true) else ((spec_DrawPartedWith.f k l0).bind fun bt224 => ((impl_PartedWith.f k bt224.1 bt224.2).bind fun bt226 => ((spec_PartedWith.f k bt224.1 bt224.2).bind fun bt230 => (if (bt226.2 != bt230.2) = true then (laws_FnPartedNumbers.j0 k bt224.1 bt224.2 bt226.1 bt226.2 true) else ((laws_tSame.f k bt226.1 bt230.1).bind fun t234 => (laws_FnPartedNumbers.j0 k bt224.1 bt224.2 bt226.1 bt226.2 (!t234))))))))) = some r := h
  clear h
  replace H := Option.bind_eq_some_iff.mp H
  obtain ⟨t223, A30, H⟩ := H
  replace H : (if t223 = true then (some true) else ((spec_DrawPartedWith.f k l0).bind fun bt224 => ((impl_PartedWith.f k bt224.1 bt224.2).bind fun bt226 => ((spec_PartedWith.f k bt224.1 bt224.2).bind fun bt230 => (if (bt226.2 != bt230.2) = true then (laws_FnPartedNumbers.j0 k bt224.1 bt224.2 bt226.1 bt226.2 true) else ((laws_tSame.f k bt226.1 bt230.1).bind fun t234 => (laws_FnPartedNumbers.j0 k bt224.1 bt224.2 bt226.1 bt226.2 (!t234)))))))) = some r := H
  have A3 := Aside0.mk A30
  clear A30
  by_cases c4 : t223 = true
  · as_aux_lemma =>
      subst c4
      have H1 : (some true) = some r := by rw [if_pos rfl] at H; exact H
      clear H
      have H := H1
      clear H1
      obtain rfl := Option.some.inj H
      go_enter Try.func14, Try.ntmps14
      go_wp2_with (first | ((with_reducible refine gate_callee (f := 32) rfl ?_); refine goesL_ (some 31) rfl rfl Try.func32 (by kernel_rfl) rfl #[.slice A0 l0.length c0, .slice A1 l1.length c1] rfl (by (try simp only [List.map_toArray, List.map_cons, List.map_nil]); first | done | rfl | (simp only [List.length_drop, List.length_take]; rfl)) ?_; (with_reducible refine (laws_big.calls _ _ l0 _ _ l1 true _ ?side1 ?side2 ?side3 ?side4 A3.out).mono ?_); (case side1 => repeat (first | exact HR0.out | (with_reducible refine Kd.C_alloc ?_ _) | (with_reducible refine Kd.C_drewN ?_ _) | (with_reducible refine Kd.C_drew ?_))); (case side2 => exact HC0.out); (case side3 => repeat (first | exact HR1.out | (with_reducible refine Kd.C_alloc ?_ _) | (with_reducible refine Kd.C_drewN ?_ _) | (with_reducible refine Kd.C_drew ?_))); (case side4 => exact HC1.out); rintro e w' ⟨rfl, ⟨nd, rfl⟩⟩; refine ⟨_, rfl, ?_⟩))
      go_ret
      exact ⟨by first | rfl | (simp [errW_none, errW_some] <;> rfl) | (simp [*, errW_none, errW_some] <;> rfl), by repeat (first | (with_reducible first | exact HB.out | apply below_alloc | apply pw_below_drewN | apply below_drew1) | exact HB.out)⟩
  · replace c4 := Bool.eq_false_iff.mpr c4
    subst c4
    have H1 : ((spec_DrawPartedWith.f k l0).bind fun bt224 => ((impl_PartedWith.f k bt224.1 bt224.2).bind fun bt226 => ((spec_PartedWith.f k bt224.1 bt224.2).bind fun bt230 => (if (bt226.2 != bt230.2) = true then (laws_FnPartedNumbers.j0 k bt224.1 bt224.2 bt226.1 bt226.2 true) else ((laws_tSame.f k bt226.1 bt230.1).bind fun t234 => (laws_FnPartedNumbers.j0 k bt224.1 bt224.2 bt226.1 bt226.2 (!t234))))))) = some r := by rw [if_neg (show ¬ (false = true) by decide)] at H; exact H
    clear H
    have H := H1
    clear H1
    replace H := Option.bind_eq_some_iff.mp H
    obtain ⟨⟨t224, t225⟩, A50, H⟩ := H
    replace H : ((impl_PartedWith.f k t224 t225).bind fun bt226 => ((spec_PartedWith.f k t224 t225).bind fun bt230 => (if (bt226.2 != bt230.2) = true then (laws_FnPartedNumbers.j0 k t224 t225 bt226.1 bt226.2 true) else ((laws_tSame.f k bt226.1 bt230.1).bind fun t234 => (laws_FnPartedNumbers.j0 k t224 t225 bt226.1 bt226.2 (!t234)))))) = some r := H
    have A5 := Aside0.mk A50
    clear A50
    replace H := Option.bind_eq_some_iff.mp H
    obtain ⟨⟨t226, t227⟩, A60, H⟩ := H
    replace H : ((spec_PartedWith.f k t224 t225).bind fun bt230 => (if (t227 != bt230.2) = true then (laws_FnPartedNumbers.j0 k t224 t225 t226 t227 true) else ((laws_tSame.f k t226 bt230.1).bind fun t234 => (laws_FnPartedNumbers.j0 k t224 t225 t226 t227 (!t234))))) = some r := H
    have A6 := Aside0.mk A60
    clear A60
    replace H := Option.bind_eq_some_iff.mp H
    obtain ⟨⟨t230, t231⟩, A70, H⟩ := H
    replace H : (if (t227 != t231) = true then (laws_FnPartedNumbers.j0 k t224 t225 t226 t227 true) else ((laws_tSame.f k t226 t230).bind fun t234 => (laws_FnPartedNumbers.j0 k t224 t225 t226 t227 (!t234)))) = some r := H
    have A7 := Aside0.mk A70
    clear A70
    have HC8 := Aside0.mk H
    clear H
    go_enter Try.func14, Try.ntmps14
    go_upto_region 6 with (first | ((with_reducible refine gate_callee (f := 32) rfl ?_); refine goesL_ (some 31) rfl rfl Try.func32 (by kernel_rfl) rfl #[.slice A0 l0.length c0, .slice A1 l1.length c1] rfl (by (try simp only [List.map_toArray, List.map_cons, List.map_nil]); first | done | rfl | (simp only [List.length_drop, List.length_take]; rfl)) ?_; (with_reducible refine (laws_big.calls _ _ l0 _ _ l1 false _ ?side1 ?side2 ?side3 ?side4 A3.out).mono ?_); (case side1 => repeat (first | exact HR0.out | (with_reducible refine Kd.C_alloc ?_ _) | (with_reducible refine Kd.C_drewN ?_ _) | (with_reducible refine Kd.C_drew ?_))); (case side2 => exact HC0.out); (case side3 => repeat (first | exact HR1.out | (with_reducible refine Kd.C_alloc ?_ _) | (with_reducible refine Kd.C_drewN ?_ _) | (with_reducible refine Kd.C_drew ?_))); (case side4 => exact HC1.out); rintro e w' ⟨rfl, ⟨nd, rfl⟩⟩; refine ⟨_, rfl, ?_⟩) | ((with_reducible refine gate_callee (f := 53) rfl ?_); refine goesL_ (some 34) rfl rfl Try.func53 (by kernel_rfl) rfl #[.slice A0 l0.length c0] rfl (by (try simp only [List.map_toArray, List.map_cons, List.map_nil]); first | done | rfl | (simp only [List.length_drop, List.length_take]; rfl)) ?_; (with_reducible refine (spec_DrawPartedWith.calls k _ _ l0 t224 t225 _ ?side1 ?side2 A5.out).mono ?_); (case side1 => repeat (first | exact HR0.out | (with_reducible refine Kd.C_alloc ?_ _) | (with_reducible refine Kd.C_drewN ?_ _) | (with_reducible refine Kd.C_drew ?_))); (case side2 => exact HC0.out); rintro e w9 ⟨rfl, hb⟩; refine ⟨_, rfl, ?_⟩; have n0_ := Aside0.mk (below_step (by repeat (first | (with_reducible first | exact HB.out | apply below_alloc | apply pw_below_drewN | apply below_drew1) | exact HB.out)) hb); clear HB; have HB := n0_; clear n0_; (try clear hb); (try clear hb2); (try clear hk); (try clear hi)) | ((with_reducible refine gate_callee (f := 54) rfl ?_); refine goesL_ (some 40) rfl rfl Try.func54 (by kernel_rfl) rfl #[.int .i64 t224, .int .i64 t225] rfl (by (try simp only [List.map_toArray, List.map_cons, List.map_nil]); first | done | rfl | (simp only [List.length_drop, List.length_take]; rfl)) ?_; (with_reducible refine (impl_PartedWith.calls k t224 t225 t226 t227 _ A6.out).mono ?_); rintro e w10 ⟨v228, rfl, ho0, hb⟩; refine ⟨_, rfl, ?_⟩; have n0_ := Aside0.mk (Kd.R_lower ho0 (below_size (by repeat (first | (with_reducible first | exact HB.out | apply below_alloc | apply pw_below_drewN | apply below_drew1) | exact HB.out)))); have n1_ := Aside0.mk (below_step (by repeat (first | (with_reducible first | exact HB.out | apply below_alloc | apply pw_below_drewN | apply below_drew1) | exact HB.out)) hb); clear HB; have HO229 := n0_; have HB := n1_; clear n0_ n1_; (try clear hb); (try clear hb2); (try clear hk); (try clear hi); (try clear ho0)) | ((with_reducible refine gate_callee (f := 55) rfl ?_); refine goesL_ (some 46) rfl rfl Try.func55 (by kernel_rfl) rfl #[.int .i64 t224, .int .i64 t225] rfl (by (try simp only [List.map_toArray, List.map_cons, List.map_nil]); first | done | rfl | (simp only [List.length_drop, List.length_take]; rfl)) ?_; (with_reducible refine (spec_PartedWith.calls k t224 t225 t230 t231 _ A7.out).mono ?_); rintro e w11 ⟨v232, rfl, ho0, hb⟩; refine ⟨_, rfl, ?_⟩; have n0_ := Aside0.mk (Kd.R_elder' (by (with_reducible repeat (first | apply Kd.R_alloc | apply Kd.R_drewN | apply Kd.R_drew)); (first | exact HO229.out | (have hz_ := HO229.out; (try simp only [ob_] at hz_); (try simp only [ob_]); exact hz_))) (Kd.R_base ho0) hb); have n1_ := Aside0.mk (Kd.R_lower (Kd.R_new' ho0 (Kd.R_lt (by (with_reducible repeat (first | apply Kd.R_alloc | apply Kd.R_drewN | apply Kd.R_drew)); (first | exact HO229.out | (have hz_ := HO229.out; (try simp only [ob_] at hz_); (try simp only [ob_]); exact hz_))))) (below_size (by repeat (first | (with_reducible first | exact HB.out | apply below_alloc | apply pw_below_drewN | apply below_drew1) | exact HB.out)))); have n2_ := Aside0.mk (below_step (by repeat (first | (with_reducible first | exact HB.out | apply below_alloc | apply pw_below_drewN | apply below_drew1) | exact HB.out)) hb); clear HO229; clear HB; have HO229 := n0_; have HO233 := n1_; have HB := n2_; clear n0_ n1_ n2_; (try clear hb); (try clear hb2); (try clear hk); (try clear hi); (try clear ho0)))
    (try simp only [Act.put, List.setIfInBounds_toArray, List.set_cons_zero, List.set_cons_succ])
    go_cut [57] (fun v57 wc => ∃ (kq : Nat) (x57_7 : Bool), v57 = .bool x57_7 ∧ Aside0 (laws_FnPartedNumbers.j0 kq t224 t225 t226 t227 x57_7 = some r) ∧ Aside0 (kq ≤ k) ∧ Aside0 (Kd.R (Kd.int .i64) 3 wc w.heap.size (fun _ => True) v228 t226) ∧ Aside0 (Below w.heap.size w wc))
    case first =>
      have H := HC8.out
      clear HC8
      by_cases c12 : (t227 != t231) = true
      · as_aux_lemma =>
          rw [if_pos c12] at H
          have c12b0 : (t227 != t231) = true := c12
          (try (have c12b1 : decide (t227 = t231) = false := by simpa using c12))
          (try (have c12b2 : (t227 == t231) = false := by simpa using c12))
          (try (have c12b3 : ¬ (t227 = t231) := by simpa using c12))
          clear c12
          (first | rw [c12b0] | (simp only [i64_w, i32_w]; rw [c12b0]) | skip)
          have H' := Aside0.mk H
          clear H
          go_wp2
          go_meet
          case rel => exact ⟨_, (true), (by first | rfl | (simp; done) | (simp [*]; done)), H', ⟨by first | omega | exact Nat.le_refl _⟩, ⟨by (with_reducible repeat (first | apply Kd.R_alloc | apply Kd.R_drewN | apply Kd.R_drew)); (first | exact Kd.R_mono HO229.out (fun _ hk => trivial) | (have hz_ := Kd.R_mono HO229.out (fun _ hk => trivial); (try simp only [ob_] at hz_); (try simp only [ob_]); exact hz_))⟩, ⟨by repeat (first | (with_reducible first | exact HB.out | apply below_alloc | apply pw_below_drewN | apply below_drew1) | exact HB.out)⟩⟩
      · as_aux_lemma =>
          rw [if_neg c12] at H
          have c12b0 : (t227 != t231) = false := by simpa using c12
          (try (have c12b1 : decide (t227 = t231) = true := by simpa using c12))
          (try (have c12b2 : (t227 == t231) = true := by simpa using c12))
          clear c12
          (first | rw [c12b0] | (simp only [i64_w, i32_w]; rw [c12b0]) | skip)
          replace H := Option.bind_eq_some_iff.mp H
          obtain ⟨t234, A130, H⟩ := H
          replace H : (laws_FnPartedNumbers.j0 k t224 t225 t226 t227 (!t234)) = some r := H
          have A13 := Aside0.mk A130
          clear A130
          have H' := Aside0.mk H
          clear H
          obtain ⟨Ao14, co14, eo14⟩ := Kd.R_slice HO229.out
          subst eo14
          obtain ⟨Ao15, co15, eo15⟩ := Kd.R_slice HO233.out
          subst eo15
          go_wp2_with (first | (go_at_call 36; (with_reducible refine (laws_tSame.calls k _ _ t226 _ _ t230 t234 _ ?side1 ?side2 ?side3 ?side4 A13.out).mono ?_); (case side1 => repeat (first | exact (Kd.R_reads' HO229.out).2.2 | (with_reducible refine Kd.C_alloc ?_ _) | (with_reducible refine Kd.C_drewN ?_ _) | (with_reducible refine Kd.C_drew ?_))); (case side2 => exact (Kd.R_reads' HO229.out).2.1); (case side3 => repeat (first | exact (Kd.R_reads' HO233.out).2.2 | (with_reducible refine Kd.C_alloc ?_ _) | (with_reducible refine Kd.C_drewN ?_ _) | (with_reducible refine Kd.C_drew ?_))); (case side4 => exact (Kd.R_reads' HO233.out).2.1); rintro e w' ⟨rfl, ⟨nd, rfl⟩⟩))
          go_meet
          case rel => exact ⟨_, (!t234), (by first | rfl | (simp; done) | (simp [*]; done)), H', ⟨by first | omega | exact Nat.le_refl _⟩, ⟨by (with_reducible repeat (first | apply Kd.R_alloc | apply Kd.R_drewN | apply Kd.R_drew)); (first | exact Kd.R_mono HO229.out (fun _ hk => trivial) | (have hz_ := Kd.R_mono HO229.out (fun _ hk => trivial); (try simp only [ob_] at hz_); (try simp only [ob_]); exact hz_))⟩, ⟨by repeat (first | (with_reducible first | exact HB.out | apply below_alloc | apply pw_below_drewN | apply below_drew1) | exact HB.out)⟩⟩
    case rest =>
      clear HC8
      try clear c1
      try clear p2
      try clear c3
      try clear c4
      try clear c5
      try clear c12
      try clear c12b0
      try clear c12b1
      try clear c12b2
      try clear c14
      obtain ⟨kq, x57_7, rfl, HA, HJ7, HO_7, HB⟩ := hcut
      cases kq with
      | zero => exact absurd HA.out (by simp [laws_FnPartedNumbers.j0])
      | succ kj7 =>
        have H := HA.out
        clear HA
        simp only [laws_FnPartedNumbers.j0] at H
        by_cases c16 : x57_7 = true
        · as_aux_lemma =>
            subst c16
            have H1 : (some false) = some r := by rw [if_pos rfl] at H; exact H
            clear H
            have H := H1
            clear H1
            obtain rfl := Option.some.inj H
            go_wp2
            go_ret
            exact ⟨by first | rfl | (simp [errW_none, errW_some] <;> rfl) | (simp [*, errW_none, errW_some] <;> rfl), by repeat (first | (with_reducible first | exact HB.out | apply below_alloc | apply pw_below_drewN | apply below_drew1) | exact HB.out)⟩
        · replace c16 := Bool.eq_false_iff.mpr c16
          subst c16
          have H1 : ((impl_CountParted.f kj7 t224 t224).bind fun bt235 => (if bt235.2 = true then (if t225 ≥ 0 then (laws_FnPartedNumbers.j1 kj7 t224 t225 t226 t227 bt235.1 (t227 != (decide (t225 < bt235.1)))) else (laws_FnPartedNumbers.j1 kj7 t224 t225 t226 t227 bt235.1 (t227 != false))) else (laws_FnPartedNumbers.j1 kj7 t224 t225 t226 t227 bt235.1 (t227 != false)))) = some r := by rw [if_neg (show ¬ (false = true) by decide)] at H; exact H
          clear H
          have H := H1
          clear H1
          replace H := Option.bind_eq_some_iff.mp H
          obtain ⟨⟨t235, t236⟩, A170, H⟩ := H
          replace H : (if t236 = true then (if t225 ≥ 0 then (laws_FnPartedNumbers.j1 kj7 t224 t225 t226 t227 t235 (t227 != (decide (t225 < t235)))) else (laws_FnPartedNumbers.j1 kj7 t224 t225 t226 t227 t235 (t227 != false))) else (laws_FnPartedNumbers.j1 kj7 t224 t225 t226 t227 t235 (t227 != false))) = some r := H
          have A17 := Aside0.mk A170
          clear A170
          have HC18 := Aside0.mk H
          clear H
          go_upto_region 9 with (first | ((with_reducible refine gate_callee (f := 56) rfl ?_); refine goesL_ (some 61) rfl rfl Try.func56 (by kernel_rfl) rfl #[.int .i64 t224, .int .i64 t224] rfl (by (try simp only [List.map_toArray, List.map_cons, List.map_nil]); first | done | rfl | (simp only [List.length_drop, List.length_take]; rfl)) ?_; (with_reducible refine (impl_CountParted.calls kj7 t224 t224 t235 t236 _ A17.out).mono ?_); rintro e w19 ⟨rfl, hb⟩; refine ⟨_, rfl, ?_⟩; have n0_ := Aside0.mk (Kd.R_below (by (with_reducible repeat (first | apply Kd.R_alloc | apply Kd.R_drewN | apply Kd.R_drew)); (first | exact HO_7.out | (have hz_ := HO_7.out; (try simp only [ob_] at hz_); (try simp only [ob_]); exact hz_))) hb); have n1_ := Aside0.mk (below_step (by repeat (first | (with_reducible first | exact HB.out | apply below_alloc | apply pw_below_drewN | apply below_drew1) | exact HB.out)) hb); clear HO_7; clear HB; have HO_7 := n0_; have HB := n1_; clear n0_ n1_; (try clear hb); (try clear hb2); (try clear hk); (try clear hi)))
          (try simp only [Act.put, List.setIfInBounds_toArray, List.set_cons_zero, List.set_cons_succ])
          go_cut [75] (fun v75 wc => ∃ (kq : Nat) (x75_17 : Bool), v75 = .bool x75_17 ∧ Aside0 (laws_FnPartedNumbers.j1 kq t224 t225 t226 t227 t235 x75_17 = some r) ∧ Aside0 (kq ≤ kj7) ∧ Aside0 (Kd.R (Kd.int .i64) 3 wc w.heap.size (fun _ => True) v228 t226) ∧ Aside0 (Below w.heap.size w wc))
          case first =>
            have H := HC18.out
            clear HC18
            by_cases c20 : t236 = true
            · subst c20
              have H1 : (if t225 ≥ 0 then (laws_FnPartedNumbers.j1 kj7 t224 t225 t226 t227 t235 (t227 != (decide (t225 < t235)))) else (laws_FnPartedNumbers.j1 kj7 t224 t225 t226 t227 t235 (t227 != false))) = some r := by rw [if_pos rfl] at H; exact H
              clear H
              have H := H1
              clear H1
              by_cases c21 : t225 ≥ 0
              · as_aux_lemma =>
                  rw [if_pos c21] at H
                  have c21b0 : decide (0 ≤ t225) = true := decide_eq_true c21
                  clear c21
                  (first | rw [c21b0] | (simp only [i64_w, i32_w]; rw [c21b0]) | skip)
                  have H' := Aside0.mk H
                  clear H
                  go_wp2
                  go_meet
                  case rel => exact ⟨_, ((t227 != (decide (t225 < t235)))), (by first | rfl | (simp; done) | (simp [*]; done)), H', ⟨by have := HJ7.out; first | omega | exact Nat.le_refl _⟩, ⟨by (with_reducible repeat (first | apply Kd.R_alloc | apply Kd.R_drewN | apply Kd.R_drew)); (first | exact HO_7.out | (have hz_ := HO_7.out; (try simp only [ob_] at hz_); (try simp only [ob_]); exact hz_))⟩, ⟨by repeat (first | (with_reducible first | exact HB.out | apply below_alloc | apply pw_below_drewN | apply below_drew1) | exact HB.out)⟩⟩
              · as_aux_lemma =>
                  rw [if_neg c21] at H
                  have c21b0 : decide (0 ≤ t225) = false := decide_eq_false c21
                  clear c21
                  (first | rw [c21b0] | (simp only [i64_w, i32_w]; rw [c21b0]) | skip)
                  have H' := Aside0.mk H
                  clear H
                  go_wp2
                  go_meet
                  case rel => exact ⟨_, ((t227 != false)), (by first | rfl | (simp; done) | (simp [*]; done)), H', ⟨by have := HJ7.out; first | omega | exact Nat.le_refl _⟩, ⟨by (with_reducible repeat (first | apply Kd.R_alloc | apply Kd.R_drewN | apply Kd.R_drew)); (first | exact HO_7.out | (have hz_ := HO_7.out; (try simp only [ob_] at hz_); (try simp only [ob_]); exact hz_))⟩, ⟨by repeat (first | (with_reducible first | exact HB.out | apply below_alloc | apply pw_below_drewN | apply below_drew1) | exact HB.out)⟩⟩
            · as_aux_lemma =>
                replace c20 := Bool.eq_false_iff.mpr c20
                subst c20
                have H1 : (laws_FnPartedNumbers.j1 kj7 t224 t225 t226 t227 t235 (t227 != false)) = some r := by rw [if_neg (show ¬ (false = true) by decide)] at H; exact H
                clear H
                have H := H1
                clear H1
                have H' := Aside0.mk H
                clear H
                go_wp2
                go_meet
                case rel => exact ⟨_, ((t227 != false)), (by first | rfl | (simp; done) | (simp [*]; done)), H', ⟨by have := HJ7.out; first | omega | exact Nat.le_refl _⟩, ⟨by (with_reducible repeat (first | apply Kd.R_alloc | apply Kd.R_drewN | apply Kd.R_drew)); (first | exact HO_7.out | (have hz_ := HO_7.out; (try simp only [ob_] at hz_); (try simp only [ob_]); exact hz_))⟩, ⟨by repeat (first | (with_reducible first | exact HB.out | apply below_alloc | apply pw_below_drewN | apply below_drew1) | exact HB.out)⟩⟩
          case rest =>
            clear HC18
            try clear c1
            try clear c2
            try clear p2
            try clear c3
            try clear c4
            try clear c5
            try clear c12
            try clear c12b0
            try clear c12b1
            try clear c12b2
            try clear c14
            try clear c16
            try clear c20
            try clear c21
            try clear c21b0
            try clear p2
            obtain ⟨kq, x75_17, rfl, HA, HJ17, HO_7, HB⟩ := hcut
            cases kq with
            | zero => exact absurd HA.out (by simp [laws_FnPartedNumbers.j1])
            | succ kj17 =>
              have H := HA.out
              clear HA
              simp only [laws_FnPartedNumbers.j1] at H
              by_cases c22 : x75_17 = true
              · as_aux_lemma =>
                  subst c22
                  have H1 : (some false) = some r := by rw [if_pos rfl] at H; exact H
                  clear H
                  have H := H1
                  clear H1
                  obtain rfl := Option.some.inj H
                  go_wp2
                  go_ret
                  exact ⟨by first | rfl | (simp [errW_none, errW_some] <;> rfl) | (simp [*, errW_none, errW_some] <;> rfl), by repeat (first | (with_reducible first | exact HB.out | apply below_alloc | apply pw_below_drewN | apply below_drew1) | exact HB.out)⟩
              · replace c22 := Bool.eq_false_iff.mpr c22
                subst c22
                have H1 : (if t227 = true then ((impl_RankParted.f kj17 t226).bind fun bt237 => ((impl_PartedWith.f kj17 t224 (wrap64 (t225 + 1))).bind fun bt239 => ((impl_ConjugateOf.f kj17 t226).bind fun bt243 => ((impl_ConjugateOf.f kj17 bt243.1).bind fun bt247 => (if bt237.2 = true then (if bt243.2 = true then (if bt247.2 = true then (if bt237.1 = t225 then ((impl_IsParted.f kj17 t226).bind fun t251 => (if t251 = true then ((laws_tSum.f kj17 t226).bind fun t252 => (if t252 = t224 then ((laws_tSum.f kj17 bt243.1).bind fun t253 => (if t253 = t224 then ((laws_tSame.f kj17 bt247.1 t226).bind fun t254 => (if t254 = true then (if (bt239.2 != (decide ((wrap64 (t225 + 1)) < t235))) = true then (laws_FnPartedNumbers.j2 kj17 t224 t225 t226 t235 true) else (if bt239.2 = true then ((laws_tLess.f kj17 bt239.1 t226).bind fun t255 => (laws_FnPartedNumbers.j2 kj17 t224 t225 t226 t235 (!t255))) else (laws_FnPartedNumbers.j2 kj17 t224 t225 t226 t235 false))) else (laws_FnPartedNumbers.j2 kj17 t224 t225 t226 t235 true))) else (laws_FnPartedNumbers.j2 kj17 t224 t225 t226 t235 true))) else (laws_FnPartedNumbers.j2 kj17 t224 t225 t226 t235 true))) else (laws_FnPartedNumbers.j2 kj17 t224 t225 t226 t235 true))) else (laws_FnPartedNumbers.j2 kj17 t224 t225 t226 t235 true)) else (laws_FnPartedNumbers.j2 kj17 t224 t225 t226 t235 true)) else (laws_FnPartedNumbers.j2 kj17 t224 t225 t226 t235 true)) else (laws_FnPartedNumbers.j2 kj17 t224 t225 t226 t235 true)))))) else (some true)) = some r := by rw [if_neg (show ¬ (false = true) by decide)] at H; exact H
                clear H
                have H := H1
                clear H1
                by_cases c23 : t227 = true
                · subst c23
                  have H1 : ((impl_RankParted.f kj17 t226).bind fun bt237 => ((impl_PartedWith.f kj17 t224 (wrap64 (t225 + 1))).bind fun bt239 => ((impl_ConjugateOf.f kj17 t226).bind fun bt243 => ((impl_ConjugateOf.f kj17 bt243.1).bind fun bt247 => (if bt237.2 = true then (if bt243.2 = true then (if bt247.2 = true then (if bt237.1 = t225 then ((impl_IsParted.f kj17 t226).bind fun t251 => (if t251 = true then ((laws_tSum.f kj17 t226).bind fun t252 => (if t252 = t224 then ((laws_tSum.f kj17 bt243.1).bind fun t253 => (if t253 = t224 then ((laws_tSame.f kj17 bt247.1 t226).bind fun t254 => (if t254 = true then (if (bt239.2 != (decide ((wrap64 (t225 + 1)) < t235))) = true then (laws_FnPartedNumbers.j2 kj17 t224 t225 t226 t235 true) else (if bt239.2 = true then ((laws_tLess.f kj17 bt239.1 t226).bind fun t255 => (laws_FnPartedNumbers.j2 kj17 t224 t225 t226 t235 (!t255))) else (laws_FnPartedNumbers.j2 kj17 t224 t225 t226 t235 false))) else (laws_FnPartedNumbers.j2 kj17 t224 t225 t226 t235 true))) else (laws_FnPartedNumbers.j2 kj17 t224 t225 t226 t235 true))) else (laws_FnPartedNumbers.j2 kj17 t224 t225 t226 t235 true))) else (laws_FnPartedNumbers.j2 kj17 t224 t225 t226 t235 true))) else (laws_FnPartedNumbers.j2 kj17 t224 t225 t226 t235 true)) else (laws_FnPartedNumbers.j2 kj17 t224 t225 t226 t235 true)) else (laws_FnPartedNumbers.j2 kj17 t224 t225 t226 t235 true)) else (laws_FnPartedNumbers.j2 kj17 t224 t225 t226 t235 true)))))) = some r := by rw [if_pos rfl] at H; exact H
                  clear H
                  have H := H1
                  clear H1
                  replace H := Option.bind_eq_some_iff.mp H
                  obtain ⟨⟨t237, t238⟩, A240, H⟩ := H
                  replace H : ((impl_PartedWith.f kj17 t224 (wrap64 (t225 + 1))).bind fun bt239 => ((impl_ConjugateOf.f kj17 t226).bind fun bt243 => ((impl_ConjugateOf.f kj17 bt243.1).bind fun bt247 => (if t238 = true then (if bt243.2 = true then (if bt247.2 = true then (if t237 = t225 then ((impl_IsParted.f kj17 t226).bind fun t251 => (if t251 = true then ((laws_tSum.f kj17 t226).bind fun t252 => (if t252 = t224 then ((laws_tSum.f kj17 bt243.1).bind fun t253 => (if t253 = t224 then ((laws_tSame.f kj17 bt247.1 t226).bind fun t254 => (if t254 = true then (if (bt239.2 != (decide ((wrap64 (t225 + 1)) < t235))) = true then (laws_FnPartedNumbers.j2 kj17 t224 t225 t226 t235 true) else (if bt239.2 = true then ((laws_tLess.f kj17 bt239.1 t226).bind fun t255 => (laws_FnPartedNumbers.j2 kj17 t224 t225 t226 t235 (!t255))) else (laws_FnPartedNumbers.j2 kj17 t224 t225 t226 t235 false))) else (laws_FnPartedNumbers.j2 kj17 t224 t225 t226 t235 true))) else (laws_FnPartedNumbers.j2 kj17 t224 t225 t226 t235 true))) else (laws_FnPartedNumbers.j2 kj17 t224 t225 t226 t235 true))) else (laws_FnPartedNumbers.j2 kj17 t224 t225 t226 t235 true))) else (laws_FnPartedNumbers.j2 kj17 t224 t225 t226 t235 true)) else (laws_FnPartedNumbers.j2 kj17 t224 t225 t226 t235 true)) else (laws_FnPartedNumbers.j2 kj17 t224 t225 t226 t235 true)) else (laws_FnPartedNumbers.j2 kj17 t224 t225 t226 t235 true))))) = some r := H
                  have A24 := Aside0.mk A240
                  clear A240
                  replace H := Option.bind_eq_some_iff.mp H
                  obtain ⟨⟨t239, t240⟩, A250, H⟩ := H
                  replace H : ((impl_ConjugateOf.f kj17 t226).bind fun bt243 => ((impl_ConjugateOf.f kj17 bt243.1).bind fun bt247 => (if t238 = true then (if bt243.2 = true then (if bt247.2 = true then (if t237 = t225 then ((impl_IsParted.f kj17 t226).bind fun t251 => (if t251 = true then ((laws_tSum.f kj17 t226).bind fun t252 => (if t252 = t224 then ((laws_tSum.f kj17 bt243.1).bind fun t253 => (if t253 = t224 then ((laws_tSame.f kj17 bt247.1 t226).bind fun t254 => (if t254 = true then (if (t240 != (decide ((wrap64 (t225 + 1)) < t235))) = true then (laws_FnPartedNumbers.j2 kj17 t224 t225 t226 t235 true) else (if t240 = true then ((laws_tLess.f kj17 t239 t226).bind fun t255 => (laws_FnPartedNumbers.j2 kj17 t224 t225 t226 t235 (!t255))) else (laws_FnPartedNumbers.j2 kj17 t224 t225 t226 t235 false))) else (laws_FnPartedNumbers.j2 kj17 t224 t225 t226 t235 true))) else (laws_FnPartedNumbers.j2 kj17 t224 t225 t226 t235 true))) else (laws_FnPartedNumbers.j2 kj17 t224 t225 t226 t235 true))) else (laws_FnPartedNumbers.j2 kj17 t224 t225 t226 t235 true))) else (laws_FnPartedNumbers.j2 kj17 t224 t225 t226 t235 true)) else (laws_FnPartedNumbers.j2 kj17 t224 t225 t226 t235 true)) else (laws_FnPartedNumbers.j2 kj17 t224 t225 t226 t235 true)) else (laws_FnPartedNumbers.j2 kj17 t224 t225 t226 t235 true)))) = some r := H
                  have A25 := Aside0.mk A250
                  clear A250
                  replace H := Option.bind_eq_some_iff.mp H
                  obtain ⟨⟨t243, t244⟩, A260, H⟩ := H
                  replace H : ((impl_ConjugateOf.f kj17 t243).bind fun bt247 => (if t238 = true then (if t244 = true then (if bt247.2 = true then (if t237 = t225 then ((impl_IsParted.f kj17 t226).bind fun t251 => (if t251 = true then ((laws_tSum.f kj17 t226).bind fun t252 => (if t252 = t224 then ((laws_tSum.f kj17 t243).bind fun t253 => (if t253 = t224 then ((laws_tSame.f kj17 bt247.1 t226).bind fun t254 => (if t254 = true then (if (t240 != (decide ((wrap64 (t225 + 1)) < t235))) = true then (laws_FnPartedNumbers.j2 kj17 t224 t225 t226 t235 true) else (if t240 = true then ((laws_tLess.f kj17 t239 t226).bind fun t255 => (laws_FnPartedNumbers.j2 kj17 t224 t225 t226 t235 (!t255))) else (laws_FnPartedNumbers.j2 kj17 t224 t225 t226 t235 false))) else (laws_FnPartedNumbers.j2 kj17 t224 t225 t226 t235 true))) else (laws_FnPartedNumbers.j2 kj17 t224 t225 t226 t235 true))) else (laws_FnPartedNumbers.j2 kj17 t224 t225 t226 t235 true))) else (laws_FnPartedNumbers.j2 kj17 t224 t225 t226 t235 true))) else (laws_FnPartedNumbers.j2 kj17 t224 t225 t226 t235 true)) else (laws_FnPartedNumbers.j2 kj17 t224 t225 t226 t235 true)) else (laws_FnPartedNumbers.j2 kj17 t224 t225 t226 t235 true)) else (laws_FnPartedNumbers.j2 kj17 t224 t225 t226 t235 true))) = some r := H
                  have A26 := Aside0.mk A260
                  clear A260
                  replace H := Option.bind_eq_some_iff.mp H
                  obtain ⟨⟨t247, t248⟩, A270, H⟩ := H
                  replace H : (if t238 = true then (if t244 = true then (if t248 = true then (if t237 = t225 then ((impl_IsParted.f kj17 t226).bind fun t251 => (if t251 = true then ((laws_tSum.f kj17 t226).bind fun t252 => (if t252 = t224 then ((laws_tSum.f kj17 t243).bind fun t253 => (if t253 = t224 then ((laws_tSame.f kj17 t247 t226).bind fun t254 => (if t254 = true then (if (t240 != (decide ((wrap64 (t225 + 1)) < t235))) = true then (laws_FnPartedNumbers.j2 kj17 t224 t225 t226 t235 true) else (if t240 = true then ((laws_tLess.f kj17 t239 t226).bind fun t255 => (laws_FnPartedNumbers.j2 kj17 t224 t225 t226 t235 (!t255))) else (laws_FnPartedNumbers.j2 kj17 t224 t225 t226 t235 false))) else (laws_FnPartedNumbers.j2 kj17 t224 t225 t226 t235 true))) else (laws_FnPartedNumbers.j2 kj17 t224 t225 t226 t235 true))) else (laws_FnPartedNumbers.j2 kj17 t224 t225 t226 t235 true))) else (laws_FnPartedNumbers.j2 kj17 t224 t225 t226 t235 true))) else (laws_FnPartedNumbers.j2 kj17 t224 t225 t226 t235 true)) else (laws_FnPartedNumbers.j2 kj17 t224 t225 t226 t235 true)) else (laws_FnPartedNumbers.j2 kj17 t224 t225 t226 t235 true)) else (laws_FnPartedNumbers.j2 kj17 t224 t225 t226 t235 true)) = some r := H
                  have A27 := Aside0.mk A270
                  clear A270
                  have HC28 := Aside0.mk H
                  clear H
                  obtain ⟨Ao29, co29, eo29⟩ := Kd.R_slice HO_7.out
                  subst eo29
                  go_upto_region 17 with (first | ((with_reducible refine gate_callee (f := 57) rfl ?_); refine goesL_ (some 80) rfl rfl Try.func57 (by kernel_rfl) rfl #[.slice Ao29 t226.length co29] rfl (by (try simp only [List.map_toArray, List.map_cons, List.map_nil]); first | done | rfl | (simp only [List.length_drop, List.length_take]; rfl)) ?_; (with_reducible refine (impl_RankParted.calls kj17 _ _ t226 t237 t238 _ ?side1 ?side2 A24.out).mono ?_); (case side1 => repeat (first | exact (Kd.R_reads' HO_7.out).2.2 | (with_reducible refine Kd.C_alloc ?_ _) | (with_reducible refine Kd.C_drewN ?_ _) | (with_reducible refine Kd.C_drew ?_))); (case side2 => exact (Kd.R_reads' HO_7.out).2.1); rintro e w30 ⟨rfl, hb⟩; refine ⟨_, rfl, ?_⟩; have n0_ := Aside0.mk (Kd.R_below (by (with_reducible repeat (first | apply Kd.R_alloc | apply Kd.R_drewN | apply Kd.R_drew)); (first | exact HO_7.out | (have hz_ := HO_7.out; (try simp only [ob_] at hz_); (try simp only [ob_]); exact hz_))) hb); have n1_ := Aside0.mk (below_step (by repeat (first | (with_reducible first | exact HB.out | apply below_alloc | apply pw_below_drewN | apply below_drew1) | exact HB.out)) hb); clear HO_7; clear HB; have HO_7 := n0_; have HB := n1_; clear n0_ n1_; (try clear hb); (try clear hb2); (try clear hk); (try clear hi)) | ((with_reducible refine gate_callee (f := 54) rfl ?_); refine goesL_ (some 87) rfl rfl Try.func54 (by kernel_rfl) rfl #[.int .i64 t224, .int .i64 (wrap64 (t225 + 1))] rfl (by (try simp only [List.map_toArray, List.map_cons, List.map_nil]); first | done | rfl | (simp only [List.length_drop, List.length_take]; rfl)) ?_; (with_reducible refine (impl_PartedWith.calls kj17 t224 (wrap64 (t225 + 1)) t239 t240 _ A25.out).mono ?_); rintro e w31 ⟨v241, rfl, ho0, hb⟩; refine ⟨_, rfl, ?_⟩; have n0_ := Aside0.mk (Kd.R_elder' (by (with_reducible repeat (first | apply Kd.R_alloc | apply Kd.R_drewN | apply Kd.R_drew)); (first | exact HO_7.out | (have hz_ := HO_7.out; (try simp only [ob_] at hz_); (try simp only [ob_]); exact hz_))) (Kd.R_base ho0) hb); have n1_ := Aside0.mk (Kd.R_lower (Kd.R_new' ho0 (Kd.R_lt (by (with_reducible repeat (first | apply Kd.R_alloc | apply Kd.R_drewN | apply Kd.R_drew)); (first | exact HO_7.out | (have hz_ := HO_7.out; (try simp only [ob_] at hz_); (try simp only [ob_]); exact hz_))))) (below_size (by repeat (first | (with_reducible first | exact HB.out | apply below_alloc | apply pw_below_drewN | apply below_drew1) | exact HB.out)))); have n2_ := Aside0.mk (below_step (by repeat (first | (with_reducible first | exact HB.out | apply below_alloc | apply pw_below_drewN | apply below_drew1) | exact HB.out)) hb); clear HO_7; clear HB; have HO_7 := n0_; have HO242 := n1_; have HB := n2_; clear n0_ n1_ n2_; (try clear hb); (try clear hb2); (try clear hk); (try clear hi); (try clear ho0)) | ((with_reducible refine gate_callee (f := 58) rfl ?_); refine goesL_ (some 92) rfl rfl Try.func58 (by kernel_rfl) rfl #[.slice Ao29 t226.length co29] rfl (by (try simp only [List.map_toArray, List.map_cons, List.map_nil]); first | done | rfl | (simp only [List.length_drop, List.length_take]; rfl)) ?_; (with_reducible refine (impl_ConjugateOf.calls kj17 _ _ t226 t243 t244 _ ?side1 ?side2 A26.out).mono ?_); (case side1 => repeat (first | exact (Kd.R_reads' HO_7.out).2.2 | (with_reducible refine Kd.C_alloc ?_ _) | (with_reducible refine Kd.C_drewN ?_ _) | (with_reducible refine Kd.C_drew ?_))); (case side2 => exact (Kd.R_reads' HO_7.out).2.1); rintro e w32 ⟨v245, rfl, ho0, hb⟩; refine ⟨_, rfl, ?_⟩; have n0_ := Aside0.mk (Kd.R_elder' (by (with_reducible repeat (first | apply Kd.R_alloc | apply Kd.R_drewN | apply Kd.R_drew)); (first | exact HO_7.out | (have hz_ := HO_7.out; (try simp only [ob_] at hz_); (try simp only [ob_]); exact hz_))) (Kd.R_base ho0) hb); have n1_ := Aside0.mk (Kd.R_elder' (by (with_reducible repeat (first | apply Kd.R_alloc | apply Kd.R_drewN | apply Kd.R_drew)); (first | exact HO242.out | (have hz_ := HO242.out; (try simp only [ob_] at hz_); (try simp only [ob_]); exact hz_))) (Kd.R_base ho0) hb); have n2_ := Aside0.mk (Kd.R_lower (Kd.R_new' (Kd.R_new' ho0 (Kd.R_lt (by (with_reducible repeat (first | apply Kd.R_alloc | apply Kd.R_drewN | apply Kd.R_drew)); (first | exact HO_7.out | (have hz_ := HO_7.out; (try simp only [ob_] at hz_); (try simp only [ob_]); exact hz_))))) (Kd.R_lt (by (with_reducible repeat (first | apply Kd.R_alloc | apply Kd.R_drewN | apply Kd.R_drew)); (first | exact HO242.out | (have hz_ := HO242.out; (try simp only [ob_] at hz_); (try simp only [ob_]); exact hz_))))) (below_size (by repeat (first | (with_reducible first | exact HB.out | apply below_alloc | apply pw_below_drewN | apply below_drew1) | exact HB.out)))); have n3_ := Aside0.mk (below_step (by repeat (first | (with_reducible first | exact HB.out | apply below_alloc | apply pw_below_drewN | apply below_drew1) | exact HB.out)) hb); clear HO_7; clear HO242; clear HB; have HO_7 := n0_; have HO242 := n1_; have HO246 := n2_; have HB := n3_; clear n0_ n1_ n2_ n3_; (try clear hb); (try clear hb2); (try clear hk); (try clear hi); (try clear ho0); obtain ⟨Ao33, co33, eo33⟩ := Kd.R_slice HO246.out; subst eo33) | ((with_reducible refine gate_callee (f := 58) rfl ?_); refine goesL_ (some 97) rfl rfl Try.func58 (by kernel_rfl) rfl #[.slice Ao33 t243.length co33] rfl (by (try simp only [List.map_toArray, List.map_cons, List.map_nil]); first | done | rfl | (simp only [List.length_drop, List.length_take]; rfl)) ?_; (with_reducible refine (impl_ConjugateOf.calls kj17 _ _ t243 t247 t248 _ ?side1 ?side2 A27.out).mono ?_); (case side1 => repeat (first | exact (Kd.R_reads' HO246.out).2.2 | (with_reducible refine Kd.C_alloc ?_ _) | (with_reducible refine Kd.C_drewN ?_ _) | (with_reducible refine Kd.C_drew ?_))); (case side2 => exact (Kd.R_reads' HO246.out).2.1); rintro e w34 ⟨v249, rfl, ho0, hb⟩; refine ⟨_, rfl, ?_⟩; have n0_ := Aside0.mk (Kd.R_elder' (by (with_reducible repeat (first | apply Kd.R_alloc | apply Kd.R_drewN | apply Kd.R_drew)); (first | exact HO_7.out | (have hz_ := HO_7.out; (try simp only [ob_] at hz_); (try simp only [ob_]); exact hz_))) (Kd.R_base ho0) hb); have n1_ := Aside0.mk (Kd.R_elder' (by (with_reducible repeat (first | apply Kd.R_alloc | apply Kd.R_drewN | apply Kd.R_drew)); (first | exact HO242.out | (have hz_ := HO242.out; (try simp only [ob_] at hz_); (try simp only [ob_]); exact hz_))) (Kd.R_base ho0) hb); have n2_ := Aside0.mk (Kd.R_elder' (by (with_reducible repeat (first | apply Kd.R_alloc | apply Kd.R_drewN | apply Kd.R_drew)); (first | exact HO246.out | (have hz_ := HO246.out; (try simp only [ob_] at hz_); (try simp only [ob_]); exact hz_))) (Kd.R_base ho0) hb); have n3_ := Aside0.mk (Kd.R_lower (Kd.R_new' (Kd.R_new' (Kd.R_new' ho0 (Kd.R_lt (by (with_reducible repeat (first | apply Kd.R_alloc | apply Kd.R_drewN | apply Kd.R_drew)); (first | exact HO_7.out | (have hz_ := HO_7.out; (try simp only [ob_] at hz_); (try simp only [ob_]); exact hz_))))) (Kd.R_lt (by (with_reducible repeat (first | apply Kd.R_alloc | apply Kd.R_drewN | apply Kd.R_drew)); (first | exact HO242.out | (have hz_ := HO242.out; (try simp only [ob_] at hz_); (try simp only [ob_]); exact hz_))))) (Kd.R_lt (by (with_reducible repeat (first | apply Kd.R_alloc | apply Kd.R_drewN | apply Kd.R_drew)); (first | exact HO246.out | (have hz_ := HO246.out; (try simp only [ob_] at hz_); (try simp only [ob_]); exact hz_))))) (below_size (by repeat (first | (with_reducible first | exact HB.out | apply below_alloc | apply pw_below_drewN | apply below_drew1) | exact HB.out)))); have n4_ := Aside0.mk (below_step (by repeat (first | (with_reducible first | exact HB.out | apply below_alloc | apply pw_below_drewN | apply below_drew1) | exact HB.out)) hb); clear HO_7; clear HO242; clear HO246; clear HB; have HO_7 := n0_; have HO242 := n1_; have HO246 := n2_; have HO250 := n3_; have HB := n4_; clear n0_ n1_ n2_ n3_ n4_; (try clear hb); (try clear hb2); (try clear hk); (try clear hi); (try clear ho0)))
                  (try simp only [Act.put, List.setIfInBounds_toArray, List.set_cons_zero, List.set_cons_succ])
                  go_cut [154] (fun v154 wc => ∃ (kq : Nat) (x154_27 : Bool), v154 = .bool x154_27 ∧ Aside0 (laws_FnPartedNumbers.j2 kq t224 t225 t226 t235 x154_27 = some r) ∧ Aside0 (kq ≤ kj17) ∧ Aside0 (Kd.R (Kd.int .i64) 3 wc w.heap.size (fun _ => True) (.slice Ao29 t226.length co29) t226) ∧ Aside0 (Below w.heap.size w wc))
                  case first =>
                    have H := HC28.out
                    clear HC28
                    by_cases c35 : t238 = true
                    · subst c35
                      have H1 : (if t244 = true then (if t248 = true then (if t237 = t225 then ((impl_IsParted.f kj17 t226).bind fun t251 => (if t251 = true then ((laws_tSum.f kj17 t226).bind fun t252 => (if t252 = t224 then ((laws_tSum.f kj17 t243).bind fun t253 => (if t253 = t224 then ((laws_tSame.f kj17 t247 t226).bind fun t254 => (if t254 = true then (if (t240 != (decide ((wrap64 (t225 + 1)) < t235))) = true then (laws_FnPartedNumbers.j2 kj17 t224 t225 t226 t235 true) else (if t240 = true then ((laws_tLess.f kj17 t239 t226).bind fun t255 => (laws_FnPartedNumbers.j2 kj17 t224 t225 t226 t235 (!t255))) else (laws_FnPartedNumbers.j2 kj17 t224 t225 t226 t235 false))) else (laws_FnPartedNumbers.j2 kj17 t224 t225 t226 t235 true))) else (laws_FnPartedNumbers.j2 kj17 t224 t225 t226 t235 true))) else (laws_FnPartedNumbers.j2 kj17 t224 t225 t226 t235 true))) else (laws_FnPartedNumbers.j2 kj17 t224 t225 t226 t235 true))) else (laws_FnPartedNumbers.j2 kj17 t224 t225 t226 t235 true)) else (laws_FnPartedNumbers.j2 kj17 t224 t225 t226 t235 true)) else (laws_FnPartedNumbers.j2 kj17 t224 t225 t226 t235 true)) = some r := by rw [if_pos rfl] at H; exact H
                      clear H
                      have H := H1
                      clear H1
                      by_cases c36 : t244 = true
                      · subst c36
                        have H1 : (if t248 = true then (if t237 = t225 then ((impl_IsParted.f kj17 t226).bind fun t251 => (if t251 = true then ((laws_tSum.f kj17 t226).bind fun t252 => (if t252 = t224 then ((laws_tSum.f kj17 t243).bind fun t253 => (if t253 = t224 then ((laws_tSame.f kj17 t247 t226).bind fun t254 => (if t254 = true then (if (t240 != (decide ((wrap64 (t225 + 1)) < t235))) = true then (laws_FnPartedNumbers.j2 kj17 t224 t225 t226 t235 true) else (if t240 = true then ((laws_tLess.f kj17 t239 t226).bind fun t255 => (laws_FnPartedNumbers.j2 kj17 t224 t225 t226 t235 (!t255))) else (laws_FnPartedNumbers.j2 kj17 t224 t225 t226 t235 false))) else (laws_FnPartedNumbers.j2 kj17 t224 t225 t226 t235 true))) else (laws_FnPartedNumbers.j2 kj17 t224 t225 t226 t235 true))) else (laws_FnPartedNumbers.j2 kj17 t224 t225 t226 t235 true))) else (laws_FnPartedNumbers.j2 kj17 t224 t225 t226 t235 true))) else (laws_FnPartedNumbers.j2 kj17 t224 t225 t226 t235 true)) else (laws_FnPartedNumbers.j2 kj17 t224 t225 t226 t235 true)) = some r := by rw [if_pos rfl] at H; exact H
                        clear H
                        have H := H1
                        clear H1
                        by_cases c37 : t248 = true
                        · subst c37
                          have H1 : (if t237 = t225 then ((impl_IsParted.f kj17 t226).bind fun t251 => (if t251 = true then ((laws_tSum.f kj17 t226).bind fun t252 => (if t252 = t224 then ((laws_tSum.f kj17 t243).bind fun t253 => (if t253 = t224 then ((laws_tSame.f kj17 t247 t226).bind fun t254 => (if t254 = true then (if (t240 != (decide ((wrap64 (t225 + 1)) < t235))) = true then (laws_FnPartedNumbers.j2 kj17 t224 t225 t226 t235 true) else (if t240 = true then ((laws_tLess.f kj17 t239 t226).bind fun t255 => (laws_FnPartedNumbers.j2 kj17 t224 t225 t226 t235 (!t255))) else (laws_FnPartedNumbers.j2 kj17 t224 t225 t226 t235 false))) else (laws_FnPartedNumbers.j2 kj17 t224 t225 t226 t235 true))) else (laws_FnPartedNumbers.j2 kj17 t224 t225 t226 t235 true))) else (laws_FnPartedNumbers.j2 kj17 t224 t225 t226 t235 true))) else (laws_FnPartedNumbers.j2 kj17 t224 t225 t226 t235 true))) else (laws_FnPartedNumbers.j2 kj17 t224 t225 t226 t235 true)) = some r := by rw [if_pos rfl] at H; exact H
                          clear H
                          have H := H1
                          clear H1
                          by_cases c38 : t237 = t225
                          · rw [if_pos c38] at H
                            have c38b0 : (t237 == t225) = true := beq_iff_eq.mpr c38
                            have c38b1 : (t237 != t225) = false := bne_eq_false_iff_eq.mpr c38
                            clear c38
                            (first | rw [c38b0] | (simp only [i64_w, i32_w]; rw [c38b0]) | skip)
                            replace H := Option.bind_eq_some_iff.mp H
                            obtain ⟨t251, A390, H⟩ := H
                            replace H : (if t251 = true then ((laws_tSum.f kj17 t226).bind fun t252 => (if t252 = t224 then ((laws_tSum.f kj17 t243).bind fun t253 => (if t253 = t224 then ((laws_tSame.f kj17 t247 t226).bind fun t254 => (if t254 = true then (if (t240 != (decide ((wrap64 (t225 + 1)) < t235))) = true then (laws_FnPartedNumbers.j2 kj17 t224 t225 t226 t235 true) else (if t240 = true then ((laws_tLess.f kj17 t239 t226).bind fun t255 => (laws_FnPartedNumbers.j2 kj17 t224 t225 t226 t235 (!t255))) else (laws_FnPartedNumbers.j2 kj17 t224 t225 t226 t235 false))) else (laws_FnPartedNumbers.j2 kj17 t224 t225 t226 t235 true))) else (laws_FnPartedNumbers.j2 kj17 t224 t225 t226 t235 true))) else (laws_FnPartedNumbers.j2 kj17 t224 t225 t226 t235 true))) else (laws_FnPartedNumbers.j2 kj17 t224 t225 t226 t235 true)) = some r := H
                            have A39 := Aside0.mk A390
                            clear A390
                            by_cases c40 : t251 = true
                            · subst c40
                              have H1 : ((laws_tSum.f kj17 t226).bind fun t252 => (if t252 = t224 then ((laws_tSum.f kj17 t243).bind fun t253 => (if t253 = t224 then ((laws_tSame.f kj17 t247 t226).bind fun t254 => (if t254 = true then (if (t240 != (decide ((wrap64 (t225 + 1)) < t235))) = true then (laws_FnPartedNumbers.j2 kj17 t224 t225 t226 t235 true) else (if t240 = true then ((laws_tLess.f kj17 t239 t226).bind fun t255 => (laws_FnPartedNumbers.j2 kj17 t224 t225 t226 t235 (!t255))) else (laws_FnPartedNumbers.j2 kj17 t224 t225 t226 t235 false))) else (laws_FnPartedNumbers.j2 kj17 t224 t225 t226 t235 true))) else (laws_FnPartedNumbers.j2 kj17 t224 t225 t226 t235 true))) else (laws_FnPartedNumbers.j2 kj17 t224 t225 t226 t235 true))) = some r := by rw [if_pos rfl] at H; exact H
                              clear H
                              have H := H1
                              clear H1
                              replace H := Option.bind_eq_some_iff.mp H
                              obtain ⟨t252, A410, H⟩ := H
                              replace H : (if t252 = t224 then ((laws_tSum.f kj17 t243).bind fun t253 => (if t253 = t224 then ((laws_tSame.f kj17 t247 t226).bind fun t254 => (if t254 = true then (if (t240 != (decide ((wrap64 (t225 + 1)) < t235))) = true then (laws_FnPartedNumbers.j2 kj17 t224 t225 t226 t235 true) else (if t240 = true then ((laws_tLess.f kj17 t239 t226).bind fun t255 => (laws_FnPartedNumbers.j2 kj17 t224 t225 t226 t235 (!t255))) else (laws_FnPartedNumbers.j2 kj17 t224 t225 t226 t235 false))) else (laws_FnPartedNumbers.j2 kj17 t224 t225 t226 t235 true))) else (laws_FnPartedNumbers.j2 kj17 t224 t225 t226 t235 true))) else (laws_FnPartedNumbers.j2 kj17 t224 t225 t226 t235 true)) = some r := H
                              have A41 := Aside0.mk A410
                              clear A410
                              by_cases c42 : t252 = t224
                              · rw [if_pos c42] at H
                                have c42b0 : (t252 == t224) = true := beq_iff_eq.mpr c42
                                have c42b1 : (t252 != t224) = false := bne_eq_false_iff_eq.mpr c42
                                clear c42
                                replace H := Option.bind_eq_some_iff.mp H
                                obtain ⟨t253, A430, H⟩ := H
                                replace H : (if t253 = t224 then ((laws_tSame.f kj17 t247 t226).bind fun t254 => (if t254 = true then (if (t240 != (decide ((wrap64 (t225 + 1)) < t235))) = true then (laws_FnPartedNumbers.j2 kj17 t224 t225 t226 t235 true) else (if t240 = true then ((laws_tLess.f kj17 t239 t226).bind fun t255 => (laws_FnPartedNumbers.j2 kj17 t224 t225 t226 t235 (!t255))) else (laws_FnPartedNumbers.j2 kj17 t224 t225 t226 t235 false))) else (laws_FnPartedNumbers.j2 kj17 t224 t225 t226 t235 true))) else (laws_FnPartedNumbers.j2 kj17 t224 t225 t226 t235 true)) = some r := H
                                have A43 := Aside0.mk A430
                                clear A430
                                by_cases c44 : t253 = t224
                                · rw [if_pos c44] at H
                                  have c44b0 : (t253 == t224) = true := beq_iff_eq.mpr c44
                                  have c44b1 : (t253 != t224) = false := bne_eq_false_iff_eq.mpr c44
                                  clear c44
                                  replace H := Option.bind_eq_some_iff.mp H
                                  obtain ⟨t254, A450, H⟩ := H
                                  replace H : (if t254 = true then (if (t240 != (decide ((wrap64 (t225 + 1)) < t235))) = true then (laws_FnPartedNumbers.j2 kj17 t224 t225 t226 t235 true) else (if t240 = true then ((laws_tLess.f kj17 t239 t226).bind fun t255 => (laws_FnPartedNumbers.j2 kj17 t224 t225 t226 t235 (!t255))) else (laws_FnPartedNumbers.j2 kj17 t224 t225 t226 t235 false))) else (laws_FnPartedNumbers.j2 kj17 t224 t225 t226 t235 true)) = some r := H
                                  have A45 := Aside0.mk A450
                                  clear A450
                                  by_cases c46 : t254 = true
                                  · subst c46
                                    have H1 : (if (t240 != (decide ((wrap64 (t225 + 1)) < t235))) = true then (laws_FnPartedNumbers.j2 kj17 t224 t225 t226 t235 true) else (if t240 = true then ((laws_tLess.f kj17 t239 t226).bind fun t255 => (laws_FnPartedNumbers.j2 kj17 t224 t225 t226 t235 (!t255))) else (laws_FnPartedNumbers.j2 kj17 t224 t225 t226 t235 false))) = some r := by rw [if_pos rfl] at H; exact H
                                    clear H
                                    have H := H1
                                    clear H1
                                    by_cases c47 : (t240 != (decide ((wrap64 (t225 + 1)) < t235))) = true
                                    · as_aux_lemma =>
                                        rw [if_pos c47] at H
                                        have c47b0 : (t240 != (decide ((wrap64 (t225 + 1)) < t235))) = true := c47
                                        (try (have c47b1 : decide (t240 = (decide ((wrap64 (t225 + 1)) < t235))) = false := by simpa using c47))
                                        (try (have c47b2 : (t240 == (decide ((wrap64 (t225 + 1)) < t235))) = false := by simpa using c47))
                                        (try (have c47b3 : ¬ (t240 = (decide ((wrap64 (t225 + 1)) < t235))) := by simpa using c47))
                                        clear c47
                                        have H' := Aside0.mk H
                                        clear H
                                        go_wp2_with (first | (go_at_call 59; (with_reducible refine (impl_IsParted.calls kj17 _ _ t226 true _ ?side1 ?side2 A39.out).mono ?_); (case side1 => repeat (first | exact (Kd.R_reads' HO_7.out).2.2 | (with_reducible refine Kd.C_alloc ?_ _) | (with_reducible refine Kd.C_drewN ?_ _) | (with_reducible refine Kd.C_drew ?_))); (case side2 => exact (Kd.R_reads' HO_7.out).2.1); rintro e w' ⟨rfl, ⟨nd, rfl⟩⟩) | (go_at_call 60; (with_reducible refine (laws_tSum.calls kj17 _ _ t226 t252 _ ?side1 ?side2 A41.out).mono ?_); (case side1 => repeat (first | exact (Kd.R_reads' HO_7.out).2.2 | (with_reducible refine Kd.C_alloc ?_ _) | (with_reducible refine Kd.C_drewN ?_ _) | (with_reducible refine Kd.C_drew ?_))); (case side2 => exact (Kd.R_reads' HO_7.out).2.1); rintro e w' ⟨rfl, ⟨nd, rfl⟩⟩) | (go_at_call 60; (with_reducible refine (laws_tSum.calls kj17 _ _ t243 t253 _ ?side1 ?side2 A43.out).mono ?_); (case side1 => repeat (first | exact (Kd.R_reads' HO246.out).2.2 | (with_reducible refine Kd.C_alloc ?_ _) | (with_reducible refine Kd.C_drewN ?_ _) | (with_reducible refine Kd.C_drew ?_))); (case side2 => exact (Kd.R_reads' HO246.out).2.1); rintro e w' ⟨rfl, ⟨nd, rfl⟩⟩; obtain ⟨Ao48, co48, eo48⟩ := Kd.R_slice HO250.out; subst eo48) | (go_at_call 36; (with_reducible refine (laws_tSame.calls kj17 _ _ t247 _ _ t226 true _ ?side1 ?side2 ?side3 ?side4 A45.out).mono ?_); (case side1 => repeat (first | exact (Kd.R_reads' HO250.out).2.2 | (with_reducible refine Kd.C_alloc ?_ _) | (with_reducible refine Kd.C_drewN ?_ _) | (with_reducible refine Kd.C_drew ?_))); (case side2 => exact (Kd.R_reads' HO250.out).2.1); (case side3 => repeat (first | exact (Kd.R_reads' HO_7.out).2.2 | (with_reducible refine Kd.C_alloc ?_ _) | (with_reducible refine Kd.C_drewN ?_ _) | (with_reducible refine Kd.C_drew ?_))); (case side4 => exact (Kd.R_reads' HO_7.out).2.1); rintro e w' ⟨rfl, ⟨nd, rfl⟩⟩))
                                        go_meet
                                        case rel => exact ⟨_, (true), (by first | rfl | (simp; done) | (simp [*]; done)), H', ⟨by have := HJ7.out; have := HJ17.out; first | omega | exact Nat.le_refl _⟩, ⟨by (with_reducible repeat (first | apply Kd.R_alloc | apply Kd.R_drewN | apply Kd.R_drew)); (first | exact Kd.R_mono HO_7.out (fun _ hk => trivial) | (have hz_ := Kd.R_mono HO_7.out (fun _ hk => trivial); (try simp only [ob_] at hz_); (try simp only [ob_]); exact hz_))⟩, ⟨by repeat (first | (with_reducible first | exact HB.out | apply below_alloc | apply pw_below_drewN | apply below_drew1) | exact HB.out)⟩⟩
                                    · rw [if_neg c47] at H
                                      have c47b0 : (t240 != (decide ((wrap64 (t225 + 1)) < t235))) = false := by simpa using c47
                                      (try (have c47b1 : decide (t240 = (decide ((wrap64 (t225 + 1)) < t235))) = true := by simpa using c47))
                                      (try (have c47b2 : (t240 == (decide ((wrap64 (t225 + 1)) < t235))) = true := by simpa using c47))
                                      clear c47
                                      by_cases c49 : t240 = true
                                      · as_aux_lemma =>
                                          subst c49
                                          have H1 : ((laws_tLess.f kj17 t239 t226).bind fun t255 => (laws_FnPartedNumbers.j2 kj17 t224 t225 t226 t235 (!t255))) = some r := by rw [if_pos rfl] at H; exact H
                                          clear H
                                          have H := H1
                                          clear H1
                                          replace H := Option.bind_eq_some_iff.mp H
                                          obtain ⟨t255, A500, H⟩ := H
                                          replace H : (laws_FnPartedNumbers.j2 kj17 t224 t225 t226 t235 (!t255)) = some r := H
                                          have A50 := Aside0.mk A500
                                          clear A500
                                          have H' := Aside0.mk H
                                          clear H
                                          go_wp2_with (first | (go_at_call 59; (with_reducible refine (impl_IsParted.calls kj17 _ _ t226 true _ ?side1 ?side2 A39.out).mono ?_); (case side1 => repeat (first | exact (Kd.R_reads' HO_7.out).2.2 | (with_reducible refine Kd.C_alloc ?_ _) | (with_reducible refine Kd.C_drewN ?_ _) | (with_reducible refine Kd.C_drew ?_))); (case side2 => exact (Kd.R_reads' HO_7.out).2.1); rintro e w' ⟨rfl, ⟨nd, rfl⟩⟩) | (go_at_call 60; (with_reducible refine (laws_tSum.calls kj17 _ _ t226 t252 _ ?side1 ?side2 A41.out).mono ?_); (case side1 => repeat (first | exact (Kd.R_reads' HO_7.out).2.2 | (with_reducible refine Kd.C_alloc ?_ _) | (with_reducible refine Kd.C_drewN ?_ _) | (with_reducible refine Kd.C_drew ?_))); (case side2 => exact (Kd.R_reads' HO_7.out).2.1); rintro e w' ⟨rfl, ⟨nd, rfl⟩⟩) | (go_at_call 60; (with_reducible refine (laws_tSum.calls kj17 _ _ t243 t253 _ ?side1 ?side2 A43.out).mono ?_); (case side1 => repeat (first | exact (Kd.R_reads' HO246.out).2.2 | (with_reducible refine Kd.C_alloc ?_ _) | (with_reducible refine Kd.C_drewN ?_ _) | (with_reducible refine Kd.C_drew ?_))); (case side2 => exact (Kd.R_reads' HO246.out).2.1); rintro e w' ⟨rfl, ⟨nd, rfl⟩⟩; obtain ⟨Ao51, co51, eo51⟩ := Kd.R_slice HO250.out; subst eo51) | (go_at_call 36; (with_reducible refine (laws_tSame.calls kj17 _ _ t247 _ _ t226 true _ ?side1 ?side2 ?side3 ?side4 A45.out).mono ?_); (case side1 => repeat (first | exact (Kd.R_reads' HO250.out).2.2 | (with_reducible refine Kd.C_alloc ?_ _) | (with_reducible refine Kd.C_drewN ?_ _) | (with_reducible refine Kd.C_drew ?_))); (case side2 => exact (Kd.R_reads' HO250.out).2.1); (case side3 => repeat (first | exact (Kd.R_reads' HO_7.out).2.2 | (with_reducible refine Kd.C_alloc ?_ _) | (with_reducible refine Kd.C_drewN ?_ _) | (with_reducible refine Kd.C_drew ?_))); (case side4 => exact (Kd.R_reads' HO_7.out).2.1); rintro e w' ⟨rfl, ⟨nd, rfl⟩⟩; obtain ⟨Ao52, co52, eo52⟩ := Kd.R_slice HO242.out; subst eo52) | (go_at_call 41; (with_reducible refine (laws_tLess.calls kj17 _ _ t239 _ _ t226 t255 _ ?side1 ?side2 ?side3 ?side4 A50.out).mono ?_); (case side1 => repeat (first | exact (Kd.R_reads' HO242.out).2.2 | (with_reducible refine Kd.C_alloc ?_ _) | (with_reducible refine Kd.C_drewN ?_ _) | (with_reducible refine Kd.C_drew ?_))); (case side2 => exact (Kd.R_reads' HO242.out).2.1); (case side3 => repeat (first | exact (Kd.R_reads' HO_7.out).2.2 | (with_reducible refine Kd.C_alloc ?_ _) | (with_reducible refine Kd.C_drewN ?_ _) | (with_reducible refine Kd.C_drew ?_))); (case side4 => exact (Kd.R_reads' HO_7.out).2.1); rintro e w' ⟨rfl, ⟨nd, rfl⟩⟩))
                                          go_meet
                                          case rel => exact ⟨_, (!t255), (by first | rfl | (simp; done) | (simp [*]; done)), H', ⟨by have := HJ7.out; have := HJ17.out; first | omega | exact Nat.le_refl _⟩, ⟨by (with_reducible repeat (first | apply Kd.R_alloc | apply Kd.R_drewN | apply Kd.R_drew)); (first | exact Kd.R_mono HO_7.out (fun _ hk => trivial) | (have hz_ := Kd.R_mono HO_7.out (fun _ hk => trivial); (try simp only [ob_] at hz_); (try simp only [ob_]); exact hz_))⟩, ⟨by repeat (first | (with_reducible first | exact HB.out | apply below_alloc | apply pw_below_drewN | apply below_drew1) | exact HB.out)⟩⟩
                                      · as_aux_lemma =>
                                          replace c49 := Bool.eq_false_iff.mpr c49
                                          subst c49
                                          have H1 : (laws_FnPartedNumbers.j2 kj17 t224 t225 t226 t235 false) = some r := by rw [if_neg (show ¬ (false = true) by decide)] at H; exact H
                                          clear H
                                          have H := H1
                                          clear H1
                                          have H' := Aside0.mk H
                                          clear H
                                          go_wp2_with (first | (go_at_call 59; (with_reducible refine (impl_IsParted.calls kj17 _ _ t226 true _ ?side1 ?side2 A39.out).mono ?_); (case side1 => repeat (first | exact (Kd.R_reads' HO_7.out).2.2 | (with_reducible refine Kd.C_alloc ?_ _) | (with_reducible refine Kd.C_drewN ?_ _) | (with_reducible refine Kd.C_drew ?_))); (case side2 => exact (Kd.R_reads' HO_7.out).2.1); rintro e w' ⟨rfl, ⟨nd, rfl⟩⟩) | (go_at_call 60; (with_reducible refine (laws_tSum.calls kj17 _ _ t226 t252 _ ?side1 ?side2 A41.out).mono ?_); (case side1 => repeat (first | exact (Kd.R_reads' HO_7.out).2.2 | (with_reducible refine Kd.C_alloc ?_ _) | (with_reducible refine Kd.C_drewN ?_ _) | (with_reducible refine Kd.C_drew ?_))); (case side2 => exact (Kd.R_reads' HO_7.out).2.1); rintro e w' ⟨rfl, ⟨nd, rfl⟩⟩) | (go_at_call 60; (with_reducible refine (laws_tSum.calls kj17 _ _ t243 t253 _ ?side1 ?side2 A43.out).mono ?_); (case side1 => repeat (first | exact (Kd.R_reads' HO246.out).2.2 | (with_reducible refine Kd.C_alloc ?_ _) | (with_reducible refine Kd.C_drewN ?_ _) | (with_reducible refine Kd.C_drew ?_))); (case side2 => exact (Kd.R_reads' HO246.out).2.1); rintro e w' ⟨rfl, ⟨nd, rfl⟩⟩; obtain ⟨Ao53, co53, eo53⟩ := Kd.R_slice HO250.out; subst eo53) | (go_at_call 36; (with_reducible refine (laws_tSame.calls kj17 _ _ t247 _ _ t226 true _ ?side1 ?side2 ?side3 ?side4 A45.out).mono ?_); (case side1 => repeat (first | exact (Kd.R_reads' HO250.out).2.2 | (with_reducible refine Kd.C_alloc ?_ _) | (with_reducible refine Kd.C_drewN ?_ _) | (with_reducible refine Kd.C_drew ?_))); (case side2 => exact (Kd.R_reads' HO250.out).2.1); (case side3 => repeat (first | exact (Kd.R_reads' HO_7.out).2.2 | (with_reducible refine Kd.C_alloc ?_ _) | (with_reducible refine Kd.C_drewN ?_ _) | (with_reducible refine Kd.C_drew ?_))); (case side4 => exact (Kd.R_reads' HO_7.out).2.1); rintro e w' ⟨rfl, ⟨nd, rfl⟩⟩))
                                          go_meet
                                          case rel => exact ⟨_, (false), (by first | rfl | (simp; done) | (simp [*]; done)), H', ⟨by have := HJ7.out; have := HJ17.out; first | omega | exact Nat.le_refl _⟩, ⟨by (with_reducible repeat (first | apply Kd.R_alloc | apply Kd.R_drewN | apply Kd.R_drew)); (first | exact Kd.R_mono HO_7.out (fun _ hk => trivial) | (have hz_ := Kd.R_mono HO_7.out (fun _ hk => trivial); (try simp only [ob_] at hz_); (try simp only [ob_]); exact hz_))⟩, ⟨by repeat (first | (with_reducible first | exact HB.out | apply below_alloc | apply pw_below_drewN | apply below_drew1) | exact HB.out)⟩⟩
                                  · as_aux_lemma =>
                                      replace c46 := Bool.eq_false_iff.mpr c46
                                      subst c46
                                      have H1 : (laws_FnPartedNumbers.j2 kj17 t224 t225 t226 t235 true) = some r := by rw [if_neg (show ¬ (false = true) by decide)] at H; exact H
                                      clear H
                                      have H := H1
                                      clear H1
                                      have H' := Aside0.mk H
                                      clear H
                                      go_wp2_with (first | (go_at_call 59; (with_reducible refine (impl_IsParted.calls kj17 _ _ t226 true _ ?side1 ?side2 A39.out).mono ?_); (case side1 => repeat (first | exact (Kd.R_reads' HO_7.out).2.2 | (with_reducible refine Kd.C_alloc ?_ _) | (with_reducible refine Kd.C_drewN ?_ _) | (with_reducible refine Kd.C_drew ?_))); (case side2 => exact (Kd.R_reads' HO_7.out).2.1); rintro e w' ⟨rfl, ⟨nd, rfl⟩⟩) | (go_at_call 60; (with_reducible refine (laws_tSum.calls kj17 _ _ t226 t252 _ ?side1 ?side2 A41.out).mono ?_); (case side1 => repeat (first | exact (Kd.R_reads' HO_7.out).2.2 | (with_reducible refine Kd.C_alloc ?_ _) | (with_reducible refine Kd.C_drewN ?_ _) | (with_reducible refine Kd.C_drew ?_))); (case side2 => exact (Kd.R_reads' HO_7.out).2.1); rintro e w' ⟨rfl, ⟨nd, rfl⟩⟩) | (go_at_call 60; (with_reducible refine (laws_tSum.calls kj17 _ _ t243 t253 _ ?side1 ?side2 A43.out).mono ?_); (case side1 => repeat (first | exact (Kd.R_reads' HO246.out).2.2 | (with_reducible refine Kd.C_alloc ?_ _) | (with_reducible refine Kd.C_drewN ?_ _) | (with_reducible refine Kd.C_drew ?_))); (case side2 => exact (Kd.R_reads' HO246.out).2.1); rintro e w' ⟨rfl, ⟨nd, rfl⟩⟩; obtain ⟨Ao54, co54, eo54⟩ := Kd.R_slice HO250.out; subst eo54) | (go_at_call 36; (with_reducible refine (laws_tSame.calls kj17 _ _ t247 _ _ t226 false _ ?side1 ?side2 ?side3 ?side4 A45.out).mono ?_); (case side1 => repeat (first | exact (Kd.R_reads' HO250.out).2.2 | (with_reducible refine Kd.C_alloc ?_ _) | (with_reducible refine Kd.C_drewN ?_ _) | (with_reducible refine Kd.C_drew ?_))); (case side2 => exact (Kd.R_reads' HO250.out).2.1); (case side3 => repeat (first | exact (Kd.R_reads' HO_7.out).2.2 | (with_reducible refine Kd.C_alloc ?_ _) | (with_reducible refine Kd.C_drewN ?_ _) | (with_reducible refine Kd.C_drew ?_))); (case side4 => exact (Kd.R_reads' HO_7.out).2.1); rintro e w' ⟨rfl, ⟨nd, rfl⟩⟩))
                                      go_meet
                                      case rel => exact ⟨_, (true), (by first | rfl | (simp; done) | (simp [*]; done)), H', ⟨by have := HJ7.out; have := HJ17.out; first | omega | exact Nat.le_refl _⟩, ⟨by (with_reducible repeat (first | apply Kd.R_alloc | apply Kd.R_drewN | apply Kd.R_drew)); (first | exact Kd.R_mono HO_7.out (fun _ hk => trivial) | (have hz_ := Kd.R_mono HO_7.out (fun _ hk => trivial); (try simp only [ob_] at hz_); (try simp only [ob_]); exact hz_))⟩, ⟨by repeat (first | (with_reducible first | exact HB.out | apply below_alloc | apply pw_below_drewN | apply below_drew1) | exact HB.out)⟩⟩
                                · as_aux_lemma =>
                                    rw [if_neg c44] at H
                                    have c44b0 : (t253 == t224) = false := beq_eq_false_iff_ne.mpr c44
                                    have c44b1 : (t253 != t224) = true := bne_iff_ne.mpr c44
                                    have H' := Aside0.mk H
                                    clear H
                                    go_wp2_with (first | (go_at_call 59; (with_reducible refine (impl_IsParted.calls kj17 _ _ t226 true _ ?side1 ?side2 A39.out).mono ?_); (case side1 => repeat (first | exact (Kd.R_reads' HO_7.out).2.2 | (with_reducible refine Kd.C_alloc ?_ _) | (with_reducible refine Kd.C_drewN ?_ _) | (with_reducible refine Kd.C_drew ?_))); (case side2 => exact (Kd.R_reads' HO_7.out).2.1); rintro e w' ⟨rfl, ⟨nd, rfl⟩⟩) | (go_at_call 60; (with_reducible refine (laws_tSum.calls kj17 _ _ t226 t252 _ ?side1 ?side2 A41.out).mono ?_); (case side1 => repeat (first | exact (Kd.R_reads' HO_7.out).2.2 | (with_reducible refine Kd.C_alloc ?_ _) | (with_reducible refine Kd.C_drewN ?_ _) | (with_reducible refine Kd.C_drew ?_))); (case side2 => exact (Kd.R_reads' HO_7.out).2.1); rintro e w' ⟨rfl, ⟨nd, rfl⟩⟩) | (go_at_call 60; (with_reducible refine (laws_tSum.calls kj17 _ _ t243 t253 _ ?side1 ?side2 A43.out).mono ?_); (case side1 => repeat (first | exact (Kd.R_reads' HO246.out).2.2 | (with_reducible refine Kd.C_alloc ?_ _) | (with_reducible refine Kd.C_drewN ?_ _) | (with_reducible refine Kd.C_drew ?_))); (case side2 => exact (Kd.R_reads' HO246.out).2.1); rintro e w' ⟨rfl, ⟨nd, rfl⟩⟩))
                                    go_meet
                                    case rel => exact ⟨_, (true), (by first | rfl | (simp; done) | (simp [*]; done)), H', ⟨by have := HJ7.out; have := HJ17.out; first | omega | exact Nat.le_refl _⟩, ⟨by (with_reducible repeat (first | apply Kd.R_alloc | apply Kd.R_drewN | apply Kd.R_drew)); (first | exact Kd.R_mono HO_7.out (fun _ hk => trivial) | (have hz_ := Kd.R_mono HO_7.out (fun _ hk => trivial); (try simp only [ob_] at hz_); (try simp only [ob_]); exact hz_))⟩, ⟨by repeat (first | (with_reducible first | exact HB.out | apply below_alloc | apply pw_below_drewN | apply below_drew1) | exact HB.out)⟩⟩
                              · as_aux_lemma =>
                                  rw [if_neg c42] at H
                                  have c42b0 : (t252 == t224) = false := beq_eq_false_iff_ne.mpr c42
                                  have c42b1 : (t252 != t224) = true := bne_iff_ne.mpr c42
                                  have H' := Aside0.mk H
                                  clear H
                                  go_wp2_with (first | (go_at_call 59; (with_reducible refine (impl_IsParted.calls kj17 _ _ t226 true _ ?side1 ?side2 A39.out).mono ?_); (case side1 => repeat (first | exact (Kd.R_reads' HO_7.out).2.2 | (with_reducible refine Kd.C_alloc ?_ _) | (with_reducible refine Kd.C_drewN ?_ _) | (with_reducible refine Kd.C_drew ?_))); (case side2 => exact (Kd.R_reads' HO_7.out).2.1); rintro e w' ⟨rfl, ⟨nd, rfl⟩⟩) | (go_at_call 60; (with_reducible refine (laws_tSum.calls kj17 _ _ t226 t252 _ ?side1 ?side2 A41.out).mono ?_); (case side1 => repeat (first | exact (Kd.R_reads' HO_7.out).2.2 | (with_reducible refine Kd.C_alloc ?_ _) | (with_reducible refine Kd.C_drewN ?_ _) | (with_reducible refine Kd.C_drew ?_))); (case side2 => exact (Kd.R_reads' HO_7.out).2.1); rintro e w' ⟨rfl, ⟨nd, rfl⟩⟩))
                                  go_meet
                                  case rel => exact ⟨_, (true), (by first | rfl | (simp; done) | (simp [*]; done)), H', ⟨by have := HJ7.out; have := HJ17.out; first | omega | exact Nat.le_refl _⟩, ⟨by (with_reducible repeat (first | apply Kd.R_alloc | apply Kd.R_drewN | apply Kd.R_drew)); (first | exact Kd.R_mono HO_7.out (fun _ hk => trivial) | (have hz_ := Kd.R_mono HO_7.out (fun _ hk => trivial); (try simp only [ob_] at hz_); (try simp only [ob_]); exact hz_))⟩, ⟨by repeat (first | (with_reducible first | exact HB.out | apply below_alloc | apply pw_below_drewN | apply below_drew1) | exact HB.out)⟩⟩
                            · as_aux_lemma =>
                                replace c40 := Bool.eq_false_iff.mpr c40
                                subst c40
                                have H1 : (laws_FnPartedNumbers.j2 kj17 t224 t225 t226 t235 true) = some r := by rw [if_neg (show ¬ (false = true) by decide)] at H; exact H
                                clear H
                                have H := H1
                                clear H1
                                have H' := Aside0.mk H
                                clear H
                                go_wp2_with (first | (go_at_call 59; (with_reducible refine (impl_IsParted.calls kj17 _ _ t226 false _ ?side1 ?side2 A39.out).mono ?_); (case side1 => repeat (first | exact (Kd.R_reads' HO_7.out).2.2 | (with_reducible refine Kd.C_alloc ?_ _) | (with_reducible refine Kd.C_drewN ?_ _) | (with_reducible refine Kd.C_drew ?_))); (case side2 => exact (Kd.R_reads' HO_7.out).2.1); rintro e w' ⟨rfl, ⟨nd, rfl⟩⟩))
                                go_meet
                                case rel => exact ⟨_, (true), (by first | rfl | (simp; done) | (simp [*]; done)), H', ⟨by have := HJ7.out; have := HJ17.out; first | omega | exact Nat.le_refl _⟩, ⟨by (with_reducible repeat (first | apply Kd.R_alloc | apply Kd.R_drewN | apply Kd.R_drew)); (first | exact Kd.R_mono HO_7.out (fun _ hk => trivial) | (have hz_ := Kd.R_mono HO_7.out (fun _ hk => trivial); (try simp only [ob_] at hz_); (try simp only [ob_]); exact hz_))⟩, ⟨by repeat (first | (with_reducible first | exact HB.out | apply below_alloc | apply pw_below_drewN | apply below_drew1) | exact HB.out)⟩⟩
                          · as_aux_lemma =>
                              rw [if_neg c38] at H
                              have c38b0 : (t237 == t225) = false := beq_eq_false_iff_ne.mpr c38
                              have c38b1 : (t237 != t225) = true := bne_iff_ne.mpr c38
                              (first | rw [c38b0] | (simp only [i64_w, i32_w]; rw [c38b0]) | skip)
                              have H' := Aside0.mk H
                              clear H
                              go_wp2
                              go_meet
                              case rel => exact ⟨_, (true), (by first | rfl | (simp; done) | (simp [*]; done)), H', ⟨by have := HJ7.out; have := HJ17.out; first | omega | exact Nat.le_refl _⟩, ⟨by (with_reducible repeat (first | apply Kd.R_alloc | apply Kd.R_drewN | apply Kd.R_drew)); (first | exact Kd.R_mono HO_7.out (fun _ hk => trivial) | (have hz_ := Kd.R_mono HO_7.out (fun _ hk => trivial); (try simp only [ob_] at hz_); (try simp only [ob_]); exact hz_))⟩, ⟨by repeat (first | (with_reducible first | exact HB.out | apply below_alloc | apply pw_below_drewN | apply below_drew1) | exact HB.out)⟩⟩
                        · as_aux_lemma =>
                            replace c37 := Bool.eq_false_iff.mpr c37
                            subst c37
                            have H1 : (laws_FnPartedNumbers.j2 kj17 t224 t225 t226 t235 true) = some r := by rw [if_neg (show ¬ (false = true) by decide)] at H; exact H
                            clear H
                            have H := H1
                            clear H1
                            have H' := Aside0.mk H
                            clear H
                            go_wp2
                            go_meet
                            case rel => exact ⟨_, (true), (by first | rfl | (simp; done) | (simp [*]; done)), H', ⟨by have := HJ7.out; have := HJ17.out; first | omega | exact Nat.le_refl _⟩, ⟨by (with_reducible repeat (first | apply Kd.R_alloc | apply Kd.R_drewN | apply Kd.R_drew)); (first | exact Kd.R_mono HO_7.out (fun _ hk => trivial) | (have hz_ := Kd.R_mono HO_7.out (fun _ hk => trivial); (try simp only [ob_] at hz_); (try simp only [ob_]); exact hz_))⟩, ⟨by repeat (first | (with_reducible first | exact HB.out | apply below_alloc | apply pw_below_drewN | apply below_drew1) | exact HB.out)⟩⟩
                      · as_aux_lemma =>
                          replace c36 := Bool.eq_false_iff.mpr c36
                          subst c36
                          have H1 : (laws_FnPartedNumbers.j2 kj17 t224 t225 t226 t235 true) = some r := by rw [if_neg (show ¬ (false = true) by decide)] at H; exact H
                          clear H
                          have H := H1
                          clear H1
                          have H' := Aside0.mk H
                          clear H
                          go_wp2
                          go_meet
                          case rel => exact ⟨_, (true), (by first | rfl | (simp; done) | (simp [*]; done)), H', ⟨by have := HJ7.out; have := HJ17.out; first | omega | exact Nat.le_refl _⟩, ⟨by (with_reducible repeat (first | apply Kd.R_alloc | apply Kd.R_drewN | apply Kd.R_drew)); (first | exact Kd.R_mono HO_7.out (fun _ hk => trivial) | (have hz_ := Kd.R_mono HO_7.out (fun _ hk => trivial); (try simp only [ob_] at hz_); (try simp only [ob_]); exact hz_))⟩, ⟨by repeat (first | (with_reducible first | exact HB.out | apply below_alloc | apply pw_below_drewN | apply below_drew1) | exact HB.out)⟩⟩
                    · as_aux_lemma =>
                        replace c35 := Bool.eq_false_iff.mpr c35
                        subst c35
                        have H1 : (laws_FnPartedNumbers.j2 kj17 t224 t225 t226 t235 true) = some r := by rw [if_neg (show ¬ (false = true) by decide)] at H; exact H
                        clear H
                        have H := H1
                        clear H1
                        have H' := Aside0.mk H
                        clear H
                        go_wp2
                        go_meet
                        case rel => exact ⟨_, (true), (by first | rfl | (simp; done) | (simp [*]; done)), H', ⟨by have := HJ7.out; have := HJ17.out; first | omega | exact Nat.le_refl _⟩, ⟨by (with_reducible repeat (first | apply Kd.R_alloc | apply Kd.R_drewN | apply Kd.R_drew)); (first | exact Kd.R_mono HO_7.out (fun _ hk => trivial) | (have hz_ := Kd.R_mono HO_7.out (fun _ hk => trivial); (try simp only [ob_] at hz_); (try simp only [ob_]); exact hz_))⟩, ⟨by repeat (first | (with_reducible first | exact HB.out | apply below_alloc | apply pw_below_drewN | apply below_drew1) | exact HB.out)⟩⟩
                  case rest =>
                    clear HC28
                    try clear c1
                    try clear c2
                    try clear p2
                    try clear c3
                    try clear c4
                    try clear c5
                    try clear p6
                    try clear c12
                    try clear c12b0
                    try clear c12b1
                    try clear c12b2
                    try clear c14
                    try clear c16
                    try clear c20
                    try clear c21
                    try clear c21b0
                    try clear c22
                    try clear c23
                    try clear c32
                    try clear c35
                    try clear c36
                    try clear c37
                    try clear c38
                    try clear c38b0
                    try clear c38b1
                    try clear c40
                    try clear c42
                    try clear c42b0
                    try clear c42b1
                    try clear c44
                    try clear c44b0
                    try clear c44b1
                    try clear c46
                    try clear c47
                    try clear c47b0
                    try clear c47b1
                    try clear c47b2
                    try clear c49
                    try clear c53
                    try clear c54
                    try clear p2
                    obtain ⟨kq, x154_27, rfl, HA, HJ27, HO_7, HB⟩ := hcut
                    cases kq with
                    | zero => exact absurd HA.out (by simp [laws_FnPartedNumbers.j2])
                    | succ kj27 =>
                      have H := HA.out
                      clear HA
                      simp only [laws_FnPartedNumbers.j2] at H
                      by_cases c55 : x154_27 = true
                      · as_aux_lemma =>
                          subst c55
                          have H1 : (some false) = some r := by rw [if_pos rfl] at H; exact H
                          clear H
                          have H := H1
                          clear H1
                          obtain rfl := Option.some.inj H
                          go_wp2
                          go_ret
                          exact ⟨by first | rfl | (simp [errW_none, errW_some] <;> rfl) | (simp [*, errW_none, errW_some] <;> rfl), by repeat (first | (with_reducible first | exact HB.out | apply below_alloc | apply pw_below_drewN | apply below_drew1) | exact HB.out)⟩
                      · replace c55 := Bool.eq_false_iff.mpr c55
                        subst c55
                        have H1 : ((impl_CountParted.f kj27 t224 (t226.length : Int)).bind fun bt256 => ((impl_PartedOf.f kj27 t224).bind fun bt258 => (if bt256.2 = true then (if bt258.2 = true then (if (bt258.1.length : Int) = t235 then (if 0 ≤ t225 then (if t225 < (bt258.1.length : Int) then ((laws_tSame.f kj27 (rd_L1 bt258.1 t225) t226).bind fun t263 => (laws_FnPartedNumbers.j3 kj27 (t226.length : Int) bt256.1 bt258.1 (!t263))) else (none)) else (none)) else (laws_FnPartedNumbers.j3 kj27 (t226.length : Int) bt256.1 bt258.1 true)) else (laws_FnPartedNumbers.j3 kj27 (t226.length : Int) bt256.1 bt258.1 true)) else (laws_FnPartedNumbers.j3 kj27 (t226.length : Int) bt256.1 bt258.1 true)))) = some r := by rw [if_neg (show ¬ (false = true) by decide)] at H; exact H
                        clear H
                        have H := H1
                        clear H1
                        replace H := Option.bind_eq_some_iff.mp H
                        obtain ⟨⟨t256, t257⟩, A560, H⟩ := H
                        replace H : ((impl_PartedOf.f kj27 t224).bind fun bt258 => (if t257 = true then (if bt258.2 = true then (if (bt258.1.length : Int) = t235 then (if 0 ≤ t225 then (if t225 < (bt258.1.length : Int) then ((laws_tSame.f kj27 (rd_L1 bt258.1 t225) t226).bind fun t263 => (laws_FnPartedNumbers.j3 kj27 (t226.length : Int) t256 bt258.1 (!t263))) else (none)) else (none)) else (laws_FnPartedNumbers.j3 kj27 (t226.length : Int) t256 bt258.1 true)) else (laws_FnPartedNumbers.j3 kj27 (t226.length : Int) t256 bt258.1 true)) else (laws_FnPartedNumbers.j3 kj27 (t226.length : Int) t256 bt258.1 true))) = some r := H
                        have A56 := Aside0.mk A560
                        clear A560
                        replace H := Option.bind_eq_some_iff.mp H
                        obtain ⟨⟨t258, t259⟩, A570, H⟩ := H
                        replace H : (if t257 = true then (if t259 = true then (if (t258.length : Int) = t235 then (if 0 ≤ t225 then (if t225 < (t258.length : Int) then ((laws_tSame.f kj27 (rd_L1 t258 t225) t226).bind fun t263 => (laws_FnPartedNumbers.j3 kj27 (t226.length : Int) t256 t258 (!t263))) else (none)) else (none)) else (laws_FnPartedNumbers.j3 kj27 (t226.length : Int) t256 t258 true)) else (laws_FnPartedNumbers.j3 kj27 (t226.length : Int) t256 t258 true)) else (laws_FnPartedNumbers.j3 kj27 (t226.length : Int) t256 t258 true)) = some r := H
                        have A57 := Aside0.mk A570
                        clear A570
                        have HC58 := Aside0.mk H
                        clear H
                        go_upto_region 22 with (first | ((with_reducible refine gate_callee (f := 56) rfl ?_); refine goesL_ (some 160) rfl rfl Try.func56 (by kernel_rfl) rfl #[.int .i64 t224, .int .i64 (t226.length : Int)] rfl (by (try simp only [List.map_toArray, List.map_cons, List.map_nil]); first | done | rfl | (simp only [List.length_drop, List.length_take]; rfl)) ?_; (with_reducible refine (impl_CountParted.calls kj27 t224 (t226.length : Int) t256 t257 _ A56.out).mono ?_); rintro e w59 ⟨rfl, hb⟩; refine ⟨_, rfl, ?_⟩; have n0_ := Aside0.mk (Kd.R_below (by (with_reducible repeat (first | apply Kd.R_alloc | apply Kd.R_drewN | apply Kd.R_drew)); (first | exact HO_7.out | (have hz_ := HO_7.out; (try simp only [ob_] at hz_); (try simp only [ob_]); exact hz_))) hb); have n1_ := Aside0.mk (below_step (by repeat (first | (with_reducible first | exact HB.out | apply below_alloc | apply pw_below_drewN | apply below_drew1) | exact HB.out)) hb); clear HO_7; clear HB; have HO_7 := n0_; have HB := n1_; clear n0_ n1_; (try clear hb); (try clear hb2); (try clear hk); (try clear hi)) | ((with_reducible refine gate_callee (f := 20) rfl ?_); refine goesL_ (some 165) rfl rfl Try.func20 (by kernel_rfl) rfl #[.int .i64 t224] rfl (by (try simp only [List.map_toArray, List.map_cons, List.map_nil]); first | done | rfl | (simp only [List.length_drop, List.length_take]; rfl)) ?_; (with_reducible refine (impl_PartedOf.calls kj27 t224 t258 t259 _ A57.out).mono ?_); rintro e w60 ⟨v260, rfl, ho0, hb⟩; refine ⟨_, rfl, ?_⟩; have n0_ := Aside0.mk (Kd.R_below (by (with_reducible repeat (first | apply Kd.R_alloc | apply Kd.R_drewN | apply Kd.R_drew)); (first | exact HO_7.out | (have hz_ := HO_7.out; (try simp only [ob_] at hz_); (try simp only [ob_]); exact hz_))) hb); have n1_ := Aside0.mk (Kd.S_lower (Kd.S_new' ho0 (Kd.R_lt (by (with_reducible repeat (first | apply Kd.R_alloc | apply Kd.R_drewN | apply Kd.R_drew)); (first | exact HO_7.out | (have hz_ := HO_7.out; (try simp only [ob_] at hz_); (try simp only [ob_]); exact hz_))))) (below_size (by repeat (first | (with_reducible first | exact HB.out | apply below_alloc | apply pw_below_drewN | apply below_drew1) | exact HB.out)))); have n2_ := Aside0.mk (below_step (by repeat (first | (with_reducible first | exact HB.out | apply below_alloc | apply pw_below_drewN | apply below_drew1) | exact HB.out)) hb); clear HO_7; clear HB; have HO_7 := n0_; have HO261 := n1_; have HB := n2_; clear n0_ n1_ n2_; (try clear hb); (try clear hb2); (try clear hk); (try clear hi); (try clear ho0)))
                        (try simp only [Act.put, List.setIfInBounds_toArray, List.set_cons_zero, List.set_cons_succ])
                        go_cut [188] (fun v188 wc => ∃ (kq : Nat) (x188_57 : Bool), v188 = .bool x188_57 ∧ Aside0 (laws_FnPartedNumbers.j3 kq (t226.length : Int) t256 t258 x188_57 = some r) ∧ Aside0 (kq ≤ kj27) ∧ Aside0 (Kd.S (Kd.slice 3 (Kd.int .i64)) 22 wc w.heap.size (fun _ => True) v260 t258) ∧ Aside0 (Below w.heap.size w wc))
                        case first =>
                          have H := HC58.out
                          clear HC58
                          by_cases c61 : t257 = true
                          · subst c61
                            have H1 : (if t259 = true then (if (t258.length : Int) = t235 then (if 0 ≤ t225 then (if t225 < (t258.length : Int) then ((laws_tSame.f kj27 (rd_L1 t258 t225) t226).bind fun t263 => (laws_FnPartedNumbers.j3 kj27 (t226.length : Int) t256 t258 (!t263))) else (none)) else (none)) else (laws_FnPartedNumbers.j3 kj27 (t226.length : Int) t256 t258 true)) else (laws_FnPartedNumbers.j3 kj27 (t226.length : Int) t256 t258 true)) = some r := by rw [if_pos rfl] at H; exact H
                            clear H
                            have H := H1
                            clear H1
                            by_cases c62 : t259 = true
                            · subst c62
                              have H1 : (if (t258.length : Int) = t235 then (if 0 ≤ t225 then (if t225 < (t258.length : Int) then ((laws_tSame.f kj27 (rd_L1 t258 t225) t226).bind fun t263 => (laws_FnPartedNumbers.j3 kj27 (t226.length : Int) t256 t258 (!t263))) else (none)) else (none)) else (laws_FnPartedNumbers.j3 kj27 (t226.length : Int) t256 t258 true)) = some r := by rw [if_pos rfl] at H; exact H
                              clear H
                              have H := H1
                              clear H1
                              by_cases c63 : (t258.length : Int) = t235
                              · rw [if_pos c63] at H
                                have c63b0 : ((t258.length : Int) == t235) = true := beq_iff_eq.mpr c63
                                have c63b1 : ((t258.length : Int) != t235) = false := bne_eq_false_iff_eq.mpr c63
                                clear c63
                                (first | rw [c63b0] | (simp only [i64_w, i32_w]; rw [c63b0]) | skip)
                                by_cases c64 : 0 ≤ t225
                                · rw [if_pos c64] at H
                                  have c64b0 : decide (0 ≤ t225) = true := decide_eq_true c64
                                  clear c64
                                  by_cases c65 : t225 < (t258.length : Int)
                                  · as_aux_lemma =>
                                      rw [if_pos c65] at H
                                      have c65b0 : decide (t225 < (t258.length : Int)) = true := decide_eq_true c65
                                      clear c65
                                      replace H := Option.bind_eq_some_iff.mp H
                                      obtain ⟨t263, A660, H⟩ := H
                                      replace H : (laws_FnPartedNumbers.j3 kj27 (t226.length : Int) t256 t258 (!t263)) = some r := H
                                      have A66 := Aside0.mk A660
                                      clear A660
                                      have H' := Aside0.mk H
                                      clear H
                                      obtain ⟨Ao67, co67, eo67⟩ := Kd.S_slice HO261.out
                                      subst eo67
                                      have p262 : 0 ≤ (t225 : Int) := of_decide_eq_true (by first | (with_reducible assumption) | assumption)
                                      have q262 : t225 < (t258.length : Int) := of_decide_eq_true (by first | (with_reducible assumption) | assumption)
                                      obtain ⟨ad262, A262_0, c262_0, e262, hx262_0, hl262_0, hi262_0⟩ := at_L1 (Kd.S_reads' HO261.out).2.2 t225 p262 q262
                                      cases e262
                                      obtain ⟨ce262, hce262, hMe262, hcc262⟩ := Kd.S_get HO261.out [] t225 p262 (by first | exact q262 | exact of_decide_eq_true (by first | (with_reducible assumption) | assumption) | (have e_ := (Kd.S_reads' HO261.out).1; omega))
                                      obtain ⟨ve262_0, rfl, ge262_0⟩ := hMe262
                                      have hv262_0 := hcc262 0 _ rfl
                                      rw [Nat.add_zero, show ((Kd.slice 3 (Kd.int .i64))).sz = 1 from rfl, Nat.mul_one] at hv262_0
                                      replace hv262_0 := Option.some.inj (hv262_0.symm.trans hx262_0)
                                      rw [hv262_0] at ge262_0
                                      have HL262_0 := Aside0.mk (show Kd.R (Kd.int .i64) 3 _ _ _ _ (rd_L1 t258 t225) from ge262_0)
                                      clear hv262_0 ge262_0
                                      clear hcc262 hce262
                                      have HR262_0 := Aside0.mk hi262_0
                                      have HC262_0 := Aside0.mk hl262_0
                                      clear hi262_0 hl262_0
                                      replace p262 := eq_true p262
                                      replace q262 := eq_true q262
                                      go_wp2_with (first | (go_at_call 36; (with_reducible refine (laws_tSame.calls kj27 _ _ (rd_L1 t258 t225) _ _ t226 t263 _ ?side1 ?side2 ?side3 ?side4 A66.out).mono ?_); (case side1 => repeat (first | exact (by repeat (first | (with_reducible exact HR262_0.out) | (with_reducible refine Kd.C_alloc ?_ _) | (with_reducible refine Kd.C_drewN ?_ _) | (with_reducible refine Kd.C_drew ?_) | exact HR262_0.out)) | (with_reducible refine Kd.C_alloc ?_ _) | (with_reducible refine Kd.C_drewN ?_ _) | (with_reducible refine Kd.C_drew ?_))); (case side2 => exact HC262_0.out); (case side3 => repeat (first | exact (Kd.R_reads' HO_7.out).2.2 | (with_reducible refine Kd.C_alloc ?_ _) | (with_reducible refine Kd.C_drewN ?_ _) | (with_reducible refine Kd.C_drew ?_))); (case side4 => exact (Kd.R_reads' HO_7.out).2.1); rintro e w' ⟨rfl, ⟨nd, rfl⟩⟩))
                                      go_meet
                                      case rel => exact ⟨_, (!t263), (by first | rfl | (simp; done) | (simp [*]; done)), H', ⟨by have := HJ7.out; have := HJ17.out; have := HJ27.out; first | omega | exact Nat.le_refl _⟩, ⟨by (with_reducible repeat (first | apply Kd.S_alloc | apply Kd.S_drewN | apply Kd.S_drew)); exact Kd.S_mono HO261.out (fun _ hk => trivial)⟩, ⟨by repeat (first | (with_reducible first | exact HB.out | apply below_alloc | apply pw_below_drewN | apply below_drew1) | exact HB.out)⟩⟩
                                  · rw [if_neg c65] at H
                                    exact absurd H (by simp)
                                · rw [if_neg c64] at H
                                  exact absurd H (by simp)
                              · as_aux_lemma =>
                                  rw [if_neg c63] at H
                                  have c63b0 : ((t258.length : Int) == t235) = false := beq_eq_false_iff_ne.mpr c63
                                  have c63b1 : ((t258.length : Int) != t235) = true := bne_iff_ne.mpr c63
                                  (first | rw [c63b0] | (simp only [i64_w, i32_w]; rw [c63b0]) | skip)
                                  have H' := Aside0.mk H
                                  clear H
                                  obtain ⟨Ao68, co68, eo68⟩ := Kd.S_slice HO261.out
                                  subst eo68
                                  go_wp2
                                  go_meet
                                  case rel => exact ⟨_, (true), (by first | rfl | (simp; done) | (simp [*]; done)), H', ⟨by have := HJ7.out; have := HJ17.out; have := HJ27.out; first | omega | exact Nat.le_refl _⟩, ⟨by (with_reducible repeat (first | apply Kd.S_alloc | apply Kd.S_drewN | apply Kd.S_drew)); exact Kd.S_mono HO261.out (fun _ hk => trivial)⟩, ⟨by repeat (first | (with_reducible first | exact HB.out | apply below_alloc | apply pw_below_drewN | apply below_drew1) | exact HB.out)⟩⟩
                            · as_aux_lemma =>
                                replace c62 := Bool.eq_false_iff.mpr c62
                                subst c62
                                have H1 : (laws_FnPartedNumbers.j3 kj27 (t226.length : Int) t256 t258 true) = some r := by rw [if_neg (show ¬ (false = true) by decide)] at H; exact H
                                clear H
                                have H := H1
                                clear H1
                                have H' := Aside0.mk H
                                clear H
                                go_wp2
                                go_meet
                                case rel => exact ⟨_, (true), (by first | rfl | (simp; done) | (simp [*]; done)), H', ⟨by have := HJ7.out; have := HJ17.out; have := HJ27.out; first | omega | exact Nat.le_refl _⟩, ⟨by (with_reducible repeat (first | apply Kd.S_alloc | apply Kd.S_drewN | apply Kd.S_drew)); exact Kd.S_mono HO261.out (fun _ hk => trivial)⟩, ⟨by repeat (first | (with_reducible first | exact HB.out | apply below_alloc | apply pw_below_drewN | apply below_drew1) | exact HB.out)⟩⟩
                          · as_aux_lemma =>
                              replace c61 := Bool.eq_false_iff.mpr c61
                              subst c61
                              have H1 : (laws_FnPartedNumbers.j3 kj27 (t226.length : Int) t256 t258 true) = some r := by rw [if_neg (show ¬ (false = true) by decide)] at H; exact H
                              clear H
                              have H := H1
                              clear H1
                              have H' := Aside0.mk H
                              clear H
                              go_wp2
                              go_meet
                              case rel => exact ⟨_, (true), (by first | rfl | (simp; done) | (simp [*]; done)), H', ⟨by have := HJ7.out; have := HJ17.out; have := HJ27.out; first | omega | exact Nat.le_refl _⟩, ⟨by (with_reducible repeat (first | apply Kd.S_alloc | apply Kd.S_drewN | apply Kd.S_drew)); exact Kd.S_mono HO261.out (fun _ hk => trivial)⟩, ⟨by repeat (first | (with_reducible first | exact HB.out | apply below_alloc | apply pw_below_drewN | apply below_drew1) | exact HB.out)⟩⟩
                        case rest =>
                          clear HC58
                          try clear c1
                          try clear c2
                          try clear p2
                          try clear q2
                          try clear hx2
                          try clear c3
                          try clear c4
                          try clear c5
                          try clear c6
                          try clear p6
                          try clear c12
                          try clear c12b0
                          try clear c12b1
                          try clear c12b2
                          try clear c14
                          try clear c16
                          try clear c20
                          try clear c21
                          try clear c21b0
                          try clear c22
                          try clear c23
                          try clear c26
                          try clear p26
                          try clear q26
                          try clear hx26
                          try clear c32
                          try clear c35
                          try clear c36
                          try clear c37
                          try clear c38
                          try clear c38b0
                          try clear c38b1
                          try clear c40
                          try clear c42
                          try clear c42b0
                          try clear c42b1
                          try clear c44
                          try clear c44b0
                          try clear c44b1
                          try clear c46
                          try clear c47
                          try clear c47b0
                          try clear c47b1
                          try clear c47b2
                          try clear c49
                          try clear c53
                          try clear c54
                          try clear c55
                          try clear c56
                          try clear c57
                          try clear c58
                          try clear c61
                          try clear c62
                          try clear c63
                          try clear c63b0
                          try clear c63b1
                          try clear c64
                          try clear c64b0
                          try clear p64
                          try clear c65
                          try clear c65b0
                          try clear hx262_0
                          try clear p2
                          try clear p262
                          try clear p6
                          try clear q262
                          obtain ⟨kq, x188_57, rfl, HA, HJ57, HO_24, HB⟩ := hcut
                          cases kq with
                          | zero => exact absurd HA.out (by simp [laws_FnPartedNumbers.j3])
                          | succ kj57 =>
                            have H := HA.out
                            clear HA
                            simp only [laws_FnPartedNumbers.j3] at H
                            by_cases c69 : x188_57 = true
                            · as_aux_lemma =>
                                subst c69
                                have H1 : (some false) = some r := by rw [if_pos rfl] at H; exact H
                                clear H
                                have H := H1
                                clear H1
                                obtain rfl := Option.some.inj H
                                go_wp2
                                go_ret
                                exact ⟨by first | rfl | (simp [errW_none, errW_some] <;> rfl) | (simp [*, errW_none, errW_some] <;> rfl), by repeat (first | (with_reducible first | exact HB.out | apply below_alloc | apply pw_below_drewN | apply below_drew1) | exact HB.out)⟩
                            · replace c69 := Bool.eq_false_iff.mpr c69
                              subst c69
                              have H1 : (laws_FnPartedNumbers.l0 kj57 (t226.length : Int) t256 0 t258 (t258.length : Int) 0) = some r := by rw [if_neg (show ¬ (false = true) by decide)] at H; exact H
                              clear H
                              have H := H1
                              clear H1
                              have H' := Aside0.mk H
                              clear H
                              obtain ⟨Ao70, co70, eo70⟩ := Kd.S_slice HO_24.out
                              subst eo70
                              go_wp2
                              go_loopg [26, 191] kj57 (fun kq v26 v191 w' => ∃ (x26_5 : Int) (x191_5 : Int), v26 = .int .i64 x26_5 ∧ v191 = .int .i64 x191_5 ∧ Aside0 (laws_FnPartedNumbers.l0 kq (t226.length : Int) t256 x26_5 t258 (t258.length : Int) x191_5 = some r) ∧ Aside0 (kq ≤ kj57) ∧ Aside0 (Kd.S (Kd.slice 3 (Kd.int .i64)) 22 w' w.heap.size (fun _ => True) (.slice Ao70 t258.length co70) t258) ∧ Aside0 (Below w.heap.size w w'))
                              case atStart => exact ⟨(0), (0), (by first | rfl | (simp; done) | (simp [*]; done)), (by first | rfl | (simp; done) | (simp [*]; done)), H', ⟨Nat.le_refl _⟩, ⟨by (with_reducible repeat (first | apply Kd.S_alloc | apply Kd.S_drewN | apply Kd.S_drew)); (first | exact HO_24.out | (have hz_ := HO_24.out; (try simp only [ob_] at hz_); (try simp only [ob_]); exact hz_))⟩, ⟨by repeat (first | (with_reducible first | exact HB.out | apply below_alloc | apply pw_below_drewN | apply below_drew1) | exact HB.out)⟩⟩
                              case round =>
                                clear H'
                                try clear c1
                                try clear c2
                                try clear p2
                                try clear q2
                                try clear hx2
                                try clear c3
                                try clear c4
                                try clear c5
                                try clear c6
                                try clear p6
                                try clear c12
                                try clear c12b0
                                try clear c12b1
                                try clear c12b2
                                try clear c14
                                try clear c16
                                try clear c20
                                try clear c21
                                try clear c21b0
                                try clear c22
                                try clear c23
                                try clear c26
                                try clear p26
                                try clear q26
                                try clear hx26
                                try clear c32
                                try clear c35
                                try clear c36
                                try clear c37
                                try clear c38
                                try clear c38b0
                                try clear c38b1
                                try clear c40
                                try clear c42
                                try clear c42b0
                                try clear c42b1
                                try clear c44
                                try clear c44b0
                                try clear c44b1
                                try clear c46
                                try clear c47
                                try clear c47b0
                                try clear c47b1
                                try clear c47b2
                                try clear c49
                                try clear c53
                                try clear c54
                                try clear c55
                                try clear c56
                                try clear c57
                                try clear c58
                                try clear c61
                                try clear c62
                                try clear c63
                                try clear c63b0
                                try clear c63b1
                                try clear c64
                                try clear c64b0
                                try clear p64
                                try clear c65
                                try clear c65b0
                                try clear c69
                                try clear hx262_0
                                try clear p2
                                try clear p26
                                try clear p262
                                try clear p6
                                try clear p64
                                try clear q2
                                try clear q26
                                try clear q262
                                obtain ⟨x26_5, x191_5, rfl, rfl, HA, HK5, HO_189, HB⟩ := hrel
                                cases gk with
                                | zero => exact absurd HA.out (by simp [laws_FnPartedNumbers.l0])
                                | succ k5 =>
                                  have H := HA.out
                                  clear HA
                                  simp only [laws_FnPartedNumbers.l0] at H
                                  by_cases c71 : x191_5 < (t258.length : Int)
                                  · rw [if_pos c71] at H
                                    have c71b0 : decide (x191_5 < (t258.length : Int)) = true := decide_eq_true c71
                                    clear c71
                                    by_cases c72 : 0 ≤ x191_5
                                    · rw [if_pos c72] at H
                                      have c72b0 : decide (0 ≤ x191_5) = true := decide_eq_true c72
                                      clear c72
                                      by_cases c73 : x191_5 < (t258.length : Int)
                                      · rw [if_pos c73] at H
                                        have c73b0 : decide (x191_5 < (t258.length : Int)) = true := decide_eq_true c73
                                        clear c73
                                        by_cases c74 : ((rd_L1 t258 x191_5).length : Int) ≤ (t226.length : Int)
                                        · as_aux_lemma =>
                                            rw [if_pos c74] at H
                                            have c74b0 : decide (((rd_L1 t258 x191_5).length : Int) ≤ (t226.length : Int)) = true := decide_eq_true c74
                                            have c74b1 : decide ((rd_L1 t258 x191_5).length ≤ t226.length) = true := decide_eq_true (Int.ofNat_le.mp c74)
                                            clear c74
                                            have H' := Aside0.mk H
                                            clear H
                                            have p264 : 0 ≤ (x191_5 : Int) := of_decide_eq_true (by first | (with_reducible assumption) | assumption)
                                            have q264 : x191_5 < (t258.length : Int) := of_decide_eq_true (by first | (with_reducible assumption) | assumption)
                                            obtain ⟨ad264, A264_0, c264_0, e264, hx264_0, hl264_0, hi264_0⟩ := at_L1 (Kd.S_reads' HO_189.out).2.2 x191_5 p264 q264
                                            cases e264
                                            obtain ⟨ce264, hce264, hMe264, hcc264⟩ := Kd.S_get HO_189.out [] x191_5 p264 (by first | exact q264 | exact of_decide_eq_true (by first | (with_reducible assumption) | assumption) | (have e_ := (Kd.S_reads' HO_189.out).1; omega))
                                            obtain ⟨ve264_0, rfl, ge264_0⟩ := hMe264
                                            have hv264_0 := hcc264 0 _ rfl
                                            rw [Nat.add_zero, show ((Kd.slice 3 (Kd.int .i64))).sz = 1 from rfl, Nat.mul_one] at hv264_0
                                            replace hv264_0 := Option.some.inj (hv264_0.symm.trans hx264_0)
                                            rw [hv264_0] at ge264_0
                                            have HL264_0 := Aside0.mk (show Kd.R (Kd.int .i64) 3 _ _ _ _ (rd_L1 t258 x191_5) from ge264_0)
                                            clear hv264_0 ge264_0
                                            clear hcc264 hce264
                                            have HR264_0 := Aside0.mk hi264_0
                                            have HC264_0 := Aside0.mk hl264_0
                                            clear hi264_0 hl264_0
                                            replace p264 := eq_true p264
                                            replace q264 := eq_true q264
                                            go_wp2
                                            go_roundg k5
                                            case measure => have := HJ7.out; have := HJ17.out; have := HJ27.out; have := HJ57.out; have := HK5.out; omega
                                            case rel => exact ⟨(wrap64 (x26_5 + 1)), (wrap64 (x191_5 + 1)), (by first | rfl | (simp; done) | (simp [*]; done)), (by first | rfl | (simp; done) | (simp [*]; done)), H', ⟨by have := HJ7.out; have := HJ17.out; have := HJ27.out; have := HJ57.out; have := HK5.out; omega⟩, ⟨by (with_reducible repeat (first | apply Kd.S_alloc | apply Kd.S_drewN | apply Kd.S_drew)); (first | exact HO_189.out | (have hz_ := HO_189.out; (try simp only [ob_] at hz_); (try simp only [ob_]); exact hz_))⟩, ⟨by repeat (first | (with_reducible first | exact HB.out | apply below_alloc | apply pw_below_drewN | apply below_drew1) | exact HB.out)⟩⟩
                                        · as_aux_lemma =>
                                            rw [if_neg c74] at H
                                            have c74b0 : decide (((rd_L1 t258 x191_5).length : Int) ≤ (t226.length : Int)) = false := decide_eq_false c74
                                            have c74b1 : decide ((rd_L1 t258 x191_5).length ≤ t226.length) = false := decide_eq_false (fun h => c74 (Int.ofNat_le.mpr h))
                                            clear c74
                                            have H' := Aside0.mk H
                                            clear H
                                            have p264 : 0 ≤ (x191_5 : Int) := of_decide_eq_true (by first | (with_reducible assumption) | assumption)
                                            have q264 : x191_5 < (t258.length : Int) := of_decide_eq_true (by first | (with_reducible assumption) | assumption)
                                            obtain ⟨ad264, A264_0, c264_0, e264, hx264_0, hl264_0, hi264_0⟩ := at_L1 (Kd.S_reads' HO_189.out).2.2 x191_5 p264 q264
                                            cases e264
                                            obtain ⟨ce264, hce264, hMe264, hcc264⟩ := Kd.S_get HO_189.out [] x191_5 p264 (by first | exact q264 | exact of_decide_eq_true (by first | (with_reducible assumption) | assumption) | (have e_ := (Kd.S_reads' HO_189.out).1; omega))
                                            obtain ⟨ve264_0, rfl, ge264_0⟩ := hMe264
                                            have hv264_0 := hcc264 0 _ rfl
                                            rw [Nat.add_zero, show ((Kd.slice 3 (Kd.int .i64))).sz = 1 from rfl, Nat.mul_one] at hv264_0
                                            replace hv264_0 := Option.some.inj (hv264_0.symm.trans hx264_0)
                                            rw [hv264_0] at ge264_0
                                            have HL264_0 := Aside0.mk (show Kd.R (Kd.int .i64) 3 _ _ _ _ (rd_L1 t258 x191_5) from ge264_0)
                                            clear hv264_0 ge264_0
                                            clear hcc264 hce264
                                            have HR264_0 := Aside0.mk hi264_0
                                            have HC264_0 := Aside0.mk hl264_0
                                            clear hi264_0 hl264_0
                                            replace p264 := eq_true p264
                                            replace q264 := eq_true q264
                                            go_wp2
                                            go_roundg k5
                                            case measure => have := HJ7.out; have := HJ17.out; have := HJ27.out; have := HJ57.out; have := HK5.out; omega
                                            case rel => exact ⟨(x26_5), (wrap64 (x191_5 + 1)), (by first | rfl | (simp; done) | (simp [*]; done)), (by first | rfl | (simp; done) | (simp [*]; done)), H', ⟨by have := HJ7.out; have := HJ17.out; have := HJ27.out; have := HJ57.out; have := HK5.out; omega⟩, ⟨by (with_reducible repeat (first | apply Kd.S_alloc | apply Kd.S_drewN | apply Kd.S_drew)); (first | exact HO_189.out | (have hz_ := HO_189.out; (try simp only [ob_] at hz_); (try simp only [ob_]); exact hz_))⟩, ⟨by repeat (first | (with_reducible first | exact HB.out | apply below_alloc | apply pw_below_drewN | apply below_drew1) | exact HB.out)⟩⟩
                                      · rw [if_neg c73] at H
                                        exact absurd H (by simp)
                                    · rw [if_neg c72] at H
                                      exact absurd H (by simp)
                                  · as_aux_lemma =>
                                      rw [if_neg c71] at H
                                      have c71b0 : decide (x191_5 < (t258.length : Int)) = false := decide_eq_false c71
                                      clear c71
                                      obtain rfl := Option.some.inj H
                                      go_wp2
                                      go_ret
                                      exact ⟨by first | rfl | (simp [errW_none, errW_some] <;> rfl) | (simp [*, errW_none, errW_some] <;> rfl), by repeat (first | (with_reducible first | exact HB.out | apply below_alloc | apply pw_below_drewN | apply below_drew1) | exact HB.out)⟩
                · as_aux_lemma =>
                    replace c23 := Bool.eq_false_iff.mpr c23
                    subst c23
                    have H1 : (some true) = some r := by rw [if_neg (show ¬ (false = true) by decide)] at H; exact H
                    clear H
                    have H := H1
                    clear H1
                    obtain rfl := Option.some.inj H
                    go_wp2
                    go_ret
                    exact ⟨by first | rfl | (simp [errW_none, errW_some] <;> rfl) | (simp [*, errW_none, errW_some] <;> rfl), by repeat (first | (with_reducible first | exact HB.out | apply below_alloc | apply pw_below_drewN | apply below_drew1) | exact HB.out)⟩

/-- THE ONE PURE STATEMENT of laws_FnPartedNumbers: yours. -/
def laws_FnPartedNumbers.Pure : Prop := ∀ (l0 : List Int) (l1 : List Int), l0.length ≤ maxLen → l0.length * 1 ≤ 140737488351232 → (∀ x ∈ l0, (Lit.int .u8 x).wf = true) → l1.length ≤ maxLen → l1.length * 1 ≤ 140737488351232 → (∀ x ∈ l1, (Lit.int .u8 x).wf = true) → ∃ k, laws_FnPartedNumbers.f k l0 l1 = some true
theorem laws_FnPartedNumbers.walk (P : laws_FnPartedNumbers.Pure) (a0 : Option Addr) (len0 cap0 : Nat) (z0 : List Int) (a1 : Option Addr) (len1 cap1 : Nat) (z1 : List Int) (w : World) (w0 : (a0 = none ∧ len0 = 0 ∧ cap0 = 0 ∧ z0 = []) ∨ ∃ x, a0 = some x ∧ len0 ≤ cap0 ∧ cap0 ≤ maxLen ∧ z0.length = cap0 ∧ (∀ i, i < z0.length → w.cell? (x.add i) = some (.int .u8 (z0.getD i 0))) ∧ ∀ n ∈ z0, (Lit.int .u8 n).wf = true) (y0 : len0 * 1 ≤ 140737488351232) (w1 : (a1 = none ∧ len1 = 0 ∧ cap1 = 0 ∧ z1 = []) ∨ ∃ x, a1 = some x ∧ len1 ≤ cap1 ∧ cap1 ≤ maxLen ∧ z1.length = cap1 ∧ (∀ i, i < z1.length → w.cell? (x.add i) = some (.int .u8 (z1.getD i 0))) ∧ ∀ n ∈ z1, (Lit.int .u8 n).wf = true) (y1 : len1 * 1 ≤ 140737488351232) :
    Calls Try.prog 14 #[.slice a0 len0 cap0, .slice a1 len1 cap1] w fun e w' => e = .returned (.bool true) ∧ Below w.heap.size w w' := by
  obtain ⟨l0, rfl, hr0, hm0, hw0, hc0⟩ := ReadsInt.ofRowC w0
  obtain ⟨l1, rfl, hr1, hm1, hw1, hc1⟩ := ReadsInt.ofRowC w1
  obtain ⟨k, h⟩ := P l0 l1 hm0 y0 hw0 hm1 y1 hw1
  refine (laws_FnPartedNumbers.calls k _ _ l0 _ _ l1 true w (Kd.C_of_reads (d := (0 : Int)) (h1 := fun _ => rfl) hr0) hc0 (Kd.C_of_reads (d := (0 : Int)) (h1 := fun _ => rfl) hr1) hc1 h).mono ?_
  rintro e w' ⟨rfl, hd⟩
  exact ⟨rfl, hd⟩

end Go.Proofs.Ythaplgbhhppniaa.HFnPartedNumbers
