/- Written by this session's program handmark.py: a function that writes the rows of a row of rows, and a law's walk, by hand. -/
import Derived.Test.YtoledgkfohkfkaaHFnExactNecklacesOfx0
import Derived.Test.YtoledgkfohkfkaaHFnExactNecklacesOfx1
import Derived.Test.YtoledgkfohkfkaaHFnExactNecklacesOfx2
import Derived.Test.YtoledgkfohkfkaaHFnExactNecklacesOfx3
import Derived.Test.YtoledgkfohkfkaaHFnExactNecklacesOfx4
import Derived.Test.YtoledgkfohkfkaaHFnExactNecklacesOfx5
namespace Go.Proofs.Ytoledgkfohkfkaa.HFnExactNecklacesOf
open Go.RowKit Go.Proofs.YtoledgkfohkfkaaW.PrintWords Go.Proofs.YtoledgkfohkfkaaW.PrintLast Go.Proofs.YtoledgkfohkfkaaW.PrintMore
set_option linter.unusedVariables false
/-! ### laws.markIntSS: by hand -/
def laws_markIntSS.l0 : Nat → List (List Int) → Int → Int → Option (Int × List (List Int))
  | 0, _, _, _ => none
  | k + 1, x0, x1, x5 => if x5 < (x0.length : Int) then (if 0 ≤ x5 then ((laws_markIntS.f k (rd_L1 x0 x5) x1).bind fun bt => laws_markIntSS.l0 k (x0.set x5.toNat bt.2) bt.1 (wrap64 (x5 + 1))) else none) else some (x1, x0)
def laws_markIntSS.f (k : Nat) (l0 : List (List Int)) (a1 : Int) : Option (Int × List (List Int)) := laws_markIntSS.l0 k l0 a1 0
theorem laws_markIntSS.mono_l : ∀ k, ∀ y0 y1 y2, LeO (laws_markIntSS.l0 k y0 y1 y2) (laws_markIntSS.l0 (k + 1) y0 y1 y2)
  | 0 => fun _ _ _ r h => by simp [laws_markIntSS.l0] at h
  | k + 1 => by
    have ih0 := laws_markIntSS.mono_l k
    intro y0 y1 y2
    unfold laws_markIntSS.l0
    exact LeO.ite (LeO.ite (LeO.bind (laws_markIntS.mono _ _ _) (fun _ => ih0 _ _ _)) (LeO.none _)) (LeO.refl _)
set_option maxHeartbeats 8000000 in
set_option maxRecDepth 100000 in
theorem laws_markIntSS.calls (k : Nat) (P : Nat → Prop) (v : Value) (l0 : List (List Int)) (a1 r1 : Int) (r2 : List (List Int)) (w0 w : World) (hB : Below w0.heap.size w0 w) (ho : Kd.S (Kd.slice 3 (Kd.int .i64)) 24 w w0.heap.size P v l0) (h : laws_markIntSS.f k l0 a1 = some (r1, r2)) :
    Calls Try.prog 23 #[v, .int .i64 a1] w fun e w' => e = .returned (.int .i64 r1) ∧ Kd.S (Kd.slice 3 (Kd.int .i64)) 24 w' w0.heap.size P v r2 ∧ Below w0.heap.size w0 w' ∧ Kept w w' P := by
  have HB := Aside0.mk hB
  have HO0 := Aside0.mk ho
  have KP := Aside0.mk (Kept.refl w P)
  clear hB ho
  obtain ⟨A0, c0, ev⟩ := Kd.S_slice HO0.out
  subst ev
  have H : laws_markIntSS.l0 k l0 a1 0 = some (r1, r2) := h
  clear h
  have H' := Aside0.mk H
  clear H
  go_enter Try.func23, Try.ntmps23
  go_wp2
  go_loopg [1, 5] k (fun kq v1 v5 w' => ∃ (x0 : List (List Int)) (x1_1 : Int) (x5_1 : Int), v1 = .int .i64 x1_1 ∧ v5 = .int .i64 x5_1 ∧ Aside0 (x0.length = l0.length) ∧ Aside0 (laws_markIntSS.l0 kq x0 x1_1 x5_1 = some (r1, r2)) ∧ Aside0 (kq ≤ k) ∧ Aside0 (Kd.S (Kd.slice 3 (Kd.int .i64)) 24 w' w0.heap.size P (.slice A0 l0.length c0) x0) ∧ Aside0 (Below w0.heap.size w0 w') ∧ Aside0 (Kept w w' P))
  case atStart => exact ⟨l0, a1, 0, (by first | rfl | (simp; done)), (by first | rfl | (simp; done)), ⟨rfl⟩, H', ⟨Nat.le_refl _⟩, ⟨(by (with_reducible repeat (first | apply Kd.S_alloc | apply Kd.S_drewN | apply Kd.S_drew)); exact HO0.out)⟩, ⟨(by repeat (first | (with_reducible first | exact HB.out | apply below_alloc | apply pw_below_drewN | apply below_drew1) | exact HB.out))⟩, ⟨(by (with_reducible repeat (first | apply Kept.alloc | apply Kept.drewN | apply Kept.drew)); exact KP.out)⟩⟩
  case round =>
    clear H' HB HO0 KP
    obtain ⟨x0, x1_1, x5_1, rfl, rfl, HLN, HA, HK1, HO, HB, KP⟩ := hrel
    cases gk with
    | zero => exact absurd HA.out (by simp [laws_markIntSS.l0])
    | succ k1 =>
      have H := HA.out
      clear HA
      simp only [laws_markIntSS.l0] at H
      by_cases c3 : x5_1 < (x0.length : Int)
      · rw [if_pos c3] at H
        by_cases c4 : 0 ≤ x5_1
        · rw [if_pos c4] at H
          replace H := Option.bind_eq_some_iff.mp H
          obtain ⟨⟨t1, t2⟩, A50, H⟩ := H
          replace H : laws_markIntSS.l0 k1 (x0.set x5_1.toNat t2) t1 (wrap64 (x5_1 + 1)) = some (r1, r2) := H
          have H' := Aside0.mk H
          have A5 := Aside0.mk A50
          clear H A50
          have c3l : x5_1 < (l0.length : Int) := by rw [← HLN.out]; exact c3
          have c3b0 : decide (x5_1 < (l0.length : Int)) = true := decide_eq_true c3l
          have c4b0 : decide (0 ≤ x5_1) = true := decide_eq_true c4
          have hpos : 0 < x0.length := by omega
          obtain ⟨g, co, eo, gb, gl, cl, HG⟩ := Kd.S_form HO.out hpos
          injection eo with ea_ en_ ec_
          subst ea_
          subst ec_
          clear en_ HG gl gb
          obtain ⟨oki, ce, hcl, hM, hcc, hfr, hoki, hH⟩ := Kd.S_elem HO.out [] x5_1 c4 c3l
          obtain ⟨ve, rfl, ge⟩ := hM
          have hx := hcc 0 _ rfl
          (try simp only [show ((Kd.slice 3 (Kd.int .i64))).sz = 1 from rfl, Nat.mul_one, Nat.add_zero] at hx)
          clear hcl hcc hfr
          have HOK := Aside0.mk hoki
          clear hoki
          have ge2 : Kd.R (Kd.int .i64) 3 _ w0.heap.size oki ve (rd_L1 x0 x5_1) := ge
          clear ge
          obtain ⟨Ae, cee, ee⟩ := Kd.R_slice ge2
          subst ee
          have GE := Aside0.mk ge2
          have HH := Aside0.mk hH
          have p164 := eq_true c4
          have q164 := eq_true c3l
          clear ge2 hH c3 c4 c3l
          go_wp2_with (first | ((with_reducible refine gate_callee (f := 31) rfl ?_); refine goesL_ (some 17) rfl rfl Try.func31 (by kernel_rfl) rfl #[.slice Ae (rd_L1 x0 x5_1).length cee, .int .i64 x1_1] rfl (by (try simp only [List.map_toArray, List.map_cons, List.map_nil]); first | done | rfl) ?_; (with_reducible refine (laws_markIntS.calls k1 (fun k_ => some k_ = (.slice Ae (rd_L1 x0 x5_1).length cee : Value).ownBlock) _ (rd_L1 x0 x5_1) x1_1 t1 t2 w0 _ ?s1 ?s2 A5.out).mono ?_); (case s1 => exact (by repeat (first | (with_reducible first | exact HB.out | apply below_alloc | apply pw_below_drewN | apply below_drew1) | exact HB.out))); (case s2 => exact Kd.R_tight rfl (by (with_reducible repeat (first | apply Kd.R_alloc | apply Kd.R_drewN | apply Kd.R_drew)); exact GE.out)); rintro e w2 ⟨rfl, hy, hb, hkp⟩; refine ⟨_, rfl, ?_⟩; have n0_ := Aside0.mk (Kd.H_kept (by (with_reducible repeat (first | apply Kd.H_alloc | apply Kd.H_drewN | apply Kd.H_drew)); exact HH.out) hkp (fun k_ _ hn_ hs_ => hn_ (GE.out.1 k_ hs_.symm))); have n1_ := Aside0.mk (Kd.H_back n0_.out (okp := oki) (x' := t2) ⟨_, rfl, Kd.R_mono (Kd.R_tight rfl hy) (fun k_ hk_ => GE.out.1 k_ hk_.symm)⟩ (fun _ hk_ => hk_)); have n2_ := Aside0.mk hb; have n3_ := Aside0.mk (Kept.then_ (by (with_reducible repeat (first | apply Kept.alloc | apply Kept.drewN | apply Kept.drew)); exact KP.out) hkp (fun k_ hk_ => .inl (HOK.out k_ (GE.out.1 k_ hk_.symm)).1)); clear HB HO KP hy hb hkp n0_; have HO := n1_; have HB := n2_; have KP := n3_; clear n1_ n2_ n3_))
          go_roundg k1
          case measure => have := HK1.out; omega
          case rel => exact ⟨x0.set x5_1.toNat t2, t1, wrap64 (x5_1 + 1), (by first | rfl | (simp; done) | (simp [*]; done)), (by first | rfl | (simp; done) | (simp [*]; done)), ⟨by rw [List.length_set]; exact HLN.out⟩, H', ⟨by have := HK1.out; omega⟩, ⟨(by (with_reducible repeat (first | apply Kd.S_alloc | apply Kd.S_drewN | apply Kd.S_drew)); exact HO.out)⟩, ⟨(by repeat (first | (with_reducible first | exact HB.out | apply below_alloc | apply pw_below_drewN | apply below_drew1) | exact HB.out))⟩, ⟨(by (with_reducible repeat (first | apply Kept.alloc | apply Kept.drewN | apply Kept.drew)); exact KP.out)⟩⟩
        · rw [if_neg c4] at H
          exact absurd H (by simp)
      · rw [if_neg c3] at H
        have c3b0 : decide (x5_1 < (l0.length : Int)) = false := decide_eq_false (by rw [← HLN.out]; exact c3)
        clear c3
        simp only [Option.some.injEq, Prod.mk.injEq] at H
        obtain ⟨rfl, rfl⟩ := H
        go_wp2
        go_ret
        exact ⟨by first | rfl | (simp; done) | (simp [*]; done), (by (with_reducible repeat (first | apply Kd.S_alloc | apply Kd.S_drewN | apply Kd.S_drew)); exact HO.out), (by repeat (first | (with_reducible first | exact HB.out | apply below_alloc | apply pw_below_drewN | apply below_drew1) | exact HB.out)), (by (with_reducible repeat (first | apply Kept.alloc | apply Kept.drewN | apply Kept.drew)); exact KP.out)⟩
/-! ### the law: its straight walk -/
set_option maxHeartbeats 8000000 in
set_option maxRecDepth 100000 in
theorem laws_FnExactNecklacesOf.straight (k : Nat) (a0 a1 : Int) (L M : List (List Int)) (b : Bool) (m : Int) (w : World) (hs : spec_NecklacesOf.f k a0 a1 = some (L, b)) (hi : impl_NecklacesOf.f k a0 a1 = some (L, b)) (he : laws_eqIntSS.f k L L = some true) (hm : laws_markIntSS.f k L 1 = some (m, M)) (hml : M.length = L.length) (hh : laws_heldIntSS.f k M 1 = some m) (hm0 : ¬ m < 0) :
    Calls Try.prog 5 #[.int .i64 a0, .int .i64 a1] w fun e w' => e = .returned (.bool true) ∧ Below w.heap.size w w' := by
  have HS := Aside0.mk hs
  have HI := Aside0.mk hi
  have HE := Aside0.mk he
  have HM := Aside0.mk hm
  have HML := Aside0.mk hml
  have HH := Aside0.mk hh
  have c0 : decide (m < 0) = false := decide_eq_false hm0
  clear hs hi he hm hml hh hm0
  have HB := Aside0.mk (Below.refl w.heap.size w)
  go_enter Try.func5, Try.ntmps5
  go_wp2_with (first | ((with_reducible refine gate_callee (f := 25) rfl ?_); refine goesL_ (some 16) rfl rfl Try.func25 (by kernel_rfl) rfl #[.int .i64 a0, .int .i64 a1] rfl (by (try simp only [List.map_toArray, List.map_cons, List.map_nil]); first | done | rfl) ?_; (with_reducible refine (spec_NecklacesOf.calls k a0 a1 L b _ HS.out).mono ?_); rintro e w1 ⟨v1, rfl, ho, hb⟩; refine ⟨_, rfl, ?_⟩; have F1 := Aside0.mk (Kd.S_lower ho (below_size (by repeat (first | (with_reducible first | exact HB.out | apply below_alloc | apply pw_below_drewN | apply below_drew1) | exact HB.out)))); have n1_ := Aside0.mk (below_step (by repeat (first | (with_reducible first | exact HB.out | apply below_alloc | apply pw_below_drewN | apply below_drew1) | exact HB.out)) hb); clear HB ho hb; have HB := n1_; clear n1_; obtain ⟨Aa, ca, ea⟩ := Kd.S_slice F1.out; subst ea) | ((with_reducible refine gate_callee (f := 26) rfl ?_); refine goesL_ (some 22) rfl rfl Try.func26 (by kernel_rfl) rfl #[.int .i64 a0, .int .i64 a1] rfl (by (try simp only [List.map_toArray, List.map_cons, List.map_nil]); first | done | rfl) ?_; (with_reducible refine (impl_NecklacesOf.calls k a0 a1 L b _ HI.out).mono ?_); rintro e w2 ⟨v2, rfl, ho, hb⟩; refine ⟨_, rfl, ?_⟩; obtain ⟨ww, F1w, HBw, HX, HO2⟩ : ∃ ww : World, Aside0 (Kd.S (Kd.slice 3 (Kd.int .i64)) 24 ww w.heap.size (fun _ => True) (.slice Aa L.length ca) L) ∧ Aside0 (Below w.heap.size w ww) ∧ Aside0 (Below ww.heap.size ww w2) ∧ Aside0 (Kd.S (Kd.slice 3 (Kd.int .i64)) 24 w2 ww.heap.size (fun _ => True) v2 L) := ⟨_, ⟨(by (with_reducible repeat (first | apply Kd.S_alloc | apply Kd.S_drewN | apply Kd.S_drew)); exact F1.out)⟩, ⟨(by repeat (first | (with_reducible first | exact HB.out | apply below_alloc | apply pw_below_drewN | apply below_drew1) | exact HB.out))⟩, ⟨hb⟩, ⟨ho⟩⟩; clear F1 HB ho hb; have F1 := Aside0.mk (Kd.S_below F1w.out HX.out); obtain ⟨Ab, cb, eb⟩ := Kd.S_slice HO2.out; subst eb) | ((with_reducible refine gate_callee (f := 22) rfl ?_); refine goesL_ (some 27) rfl rfl Try.func22 (by kernel_rfl) rfl #[.slice Ab L.length cb, .slice Aa L.length ca] rfl (by (try simp only [List.map_toArray, List.map_cons, List.map_nil]); first | done | rfl) ?_; (with_reducible refine (laws_eqIntSS.calls k _ _ L _ _ L true _ ?side1 ?side2 ?side3 ?side4 HE.out).mono ?_); (case side1 => repeat (first | exact (Kd.S_reads' HO2.out).2.2 | (with_reducible refine Kd.C_alloc ?_ _) | (with_reducible refine Kd.C_drewN ?_ _) | (with_reducible refine Kd.C_drew ?_))); (case side2 => exact (Kd.S_reads' HO2.out).2.1); (case side3 => repeat (first | exact (Kd.S_reads' F1.out).2.2 | (with_reducible refine Kd.C_alloc ?_ _) | (with_reducible refine Kd.C_drewN ?_ _) | (with_reducible refine Kd.C_drew ?_))); (case side4 => exact (Kd.S_reads' F1.out).2.1); rintro e w' ⟨rfl, ⟨nd, rfl⟩⟩; refine ⟨_, rfl, ?_⟩) | ((with_reducible refine gate_callee (f := 23) rfl ?_); refine goesL_ (some 36) rfl rfl Try.func23 (by kernel_rfl) rfl #[.slice Ab L.length cb, .int .i64 1] rfl (by (try simp only [List.map_toArray, List.map_cons, List.map_nil]); first | done | rfl) ?_; (with_reducible refine (laws_markIntSS.calls k (fun _ => True) _ L 1 m M ww _ ?s1 ?s2 HM.out).mono ?_); (case s1 => exact (by repeat (first | (with_reducible first | exact HX.out | apply below_alloc | apply pw_below_drewN | apply below_drew1) | exact HX.out))); (case s2 => exact (by (with_reducible repeat (first | apply Kd.S_alloc | apply Kd.S_drewN | apply Kd.S_drew)); exact HO2.out)); rintro e w3 ⟨rfl, ho, hb, _⟩; refine ⟨_, rfl, ?_⟩; clear HO2 HX F1; have HO2 := Aside0.mk ho; have HX := Aside0.mk hb; clear ho hb; have F1 := Aside0.mk (Kd.S_below F1w.out HX.out)) | ((with_reducible refine gate_callee (f := 24) rfl ?_); refine goesL_ (some 39) rfl rfl Try.func24 (by kernel_rfl) rfl #[.slice Ab L.length cb, .int .i64 1] rfl (by (try simp only [List.map_toArray, List.map_cons, List.map_nil]); first | done | rfl) ?_; refine calls_of_args (args' := #[.slice Ab M.length cb, .int .i64 1]) (by rw [HML.out]) ?_; (with_reducible refine (laws_heldIntSS.calls k _ _ M 1 m _ ?side1 ?side2 HH.out).mono ?_); (case side1 => repeat (first | exact (Kd.S_reads' HO2.out).2.2 | (with_reducible refine Kd.C_alloc ?_ _) | (with_reducible refine Kd.C_drewN ?_ _) | (with_reducible refine Kd.C_drew ?_))); (case side2 => (rw [HML.out]; exact (Kd.S_reads' HO2.out).2.1)); rintro e w' ⟨rfl, ⟨nd, rfl⟩⟩; refine ⟨_, rfl, ?_⟩) | ((with_reducible refine gate_callee (f := 26) rfl ?_); refine goesL_ (some 48) rfl rfl Try.func26 (by kernel_rfl) rfl #[.int .i64 a0, .int .i64 a1] rfl (by (try simp only [List.map_toArray, List.map_cons, List.map_nil]); first | done | rfl) ?_; (with_reducible refine (impl_NecklacesOf.calls k a0 a1 L b _ HI.out).mono ?_); rintro e w4 ⟨v3, rfl, ho, hb⟩; refine ⟨_, rfl, ?_⟩; have n1_ := Aside0.mk (Kd.S_below (by (with_reducible repeat (first | apply Kd.S_alloc | apply Kd.S_drewN | apply Kd.S_drew)); exact HO2.out) hb); have n2_ := Aside0.mk (below_step (by repeat (first | (with_reducible first | exact HX.out | apply below_alloc | apply pw_below_drewN | apply below_drew1) | exact HX.out)) hb); have HO3 := Aside0.mk ho; clear HO2 HX F1 ho hb; have HO2 := n1_; have HX := n2_; clear n1_ n2_; have F1 := Aside0.mk (Kd.S_below F1w.out HX.out); obtain ⟨Ac, cc, ec⟩ := Kd.S_slice HO3.out; subst ec) | ((with_reducible refine gate_callee (f := 22) rfl ?_); refine goesL_ (some 53) rfl rfl Try.func22 (by kernel_rfl) rfl #[.slice Ac L.length cc, .slice Aa L.length ca] rfl (by (try simp only [List.map_toArray, List.map_cons, List.map_nil]); first | done | rfl) ?_; (with_reducible refine (laws_eqIntSS.calls k _ _ L _ _ L true _ ?side1 ?side2 ?side3 ?side4 HE.out).mono ?_); (case side1 => repeat (first | exact (Kd.S_reads' HO3.out).2.2 | (with_reducible refine Kd.C_alloc ?_ _) | (with_reducible refine Kd.C_drewN ?_ _) | (with_reducible refine Kd.C_drew ?_))); (case side2 => exact (Kd.S_reads' HO3.out).2.1); (case side3 => repeat (first | exact (Kd.S_reads' F1.out).2.2 | (with_reducible refine Kd.C_alloc ?_ _) | (with_reducible refine Kd.C_drewN ?_ _) | (with_reducible refine Kd.C_drew ?_))); (case side4 => exact (Kd.S_reads' F1.out).2.1); rintro e w' ⟨rfl, ⟨nd, rfl⟩⟩; refine ⟨_, rfl, ?_⟩) | ((with_reducible refine gate_callee (f := 24) rfl ?_); refine goesL_ (some 62) rfl rfl Try.func24 (by kernel_rfl) rfl #[.slice Ab L.length cb, .int .i64 1] rfl (by (try simp only [List.map_toArray, List.map_cons, List.map_nil]); first | done | rfl) ?_; refine calls_of_args (args' := #[.slice Ab M.length cb, .int .i64 1]) (by rw [HML.out]) ?_; (with_reducible refine (laws_heldIntSS.calls k _ _ M 1 m _ ?side1 ?side2 HH.out).mono ?_); (case side1 => repeat (first | exact (Kd.S_reads' HO2.out).2.2 | (with_reducible refine Kd.C_alloc ?_ _) | (with_reducible refine Kd.C_drewN ?_ _) | (with_reducible refine Kd.C_drew ?_))); (case side2 => (rw [HML.out]; exact (Kd.S_reads' HO2.out).2.1)); rintro e w' ⟨rfl, ⟨nd, rfl⟩⟩; refine ⟨_, rfl, ?_⟩))
  go_ret
  exact ⟨by first | rfl | (simp; done) | (simp [*]; done), below_step HBw.out (by repeat (first | (with_reducible first | exact HX.out | apply below_alloc | apply pw_below_drewN | apply below_drew1) | exact HX.out))⟩

end Go.Proofs.Ytoledgkfohkfkaa.HFnExactNecklacesOf
