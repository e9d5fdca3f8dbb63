/- Written by this session's program handmark.py: a function that writes the rows of a row of rows, and a law's walk, by hand. -/
import Derived.Test.YtoledgkfohkfkaaHFnExactGrowthOfx0
import Derived.Test.YtoledgkfohkfkaaHFnExactGrowthOfx1
import Derived.Test.YtoledgkfohkfkaaHFnExactGrowthOfx2
import Derived.Test.YtoledgkfohkfkaaHFnExactGrowthOfx3
import Derived.Test.YtoledgkfohkfkaaHFnExactGrowthOfx4
import Derived.Test.YtoledgkfohkfkaaHFnExactGrowthOfx5
namespace Go.Proofs.Ytoledgkfohkfkaa.HFnExactGrowthOf
open Go.RowKit Go.Proofs.YtoledgkfohkfkaaW.PrintWords Go.Proofs.YtoledgkfohkfkaaW.PrintLast Go.Proofs.YtoledgkfohkfkaaW.PrintMore
set_option linter.unusedVariables false
/-! ### laws.markIntSS: by hand -/
def laws_markIntSS.l0 : Nat → List (List Int) → Int → Int → Option (Int × List (List Int))
  | 0, _, _, _ => none
  | k + 1, x0, x1, x5 => if x5 < (x0.length : Int) then (if 0 ≤ x5 then ((laws_markIntS.f k (rd_L1 x0 x5) x1).bind fun bt => laws_markIntSS.l0 k (x0.set x5.toNat bt.2) bt.1 (wrap64 (x5 + 1))) else none) else some (x1, x0)
def laws_markIntSS.f (k : Nat) (l0 : List (List Int)) (a1 : Int) : Option (Int × List (List Int)) := laws_markIntSS.l0 k l0 a1 0
theorem laws_markIntSS.mono_l : ∀ k, ∀ y0 y1 y2, LeO (laws_markIntSS.l0 k y0 y1 y2) (laws_markIntSS.l0 (k + 1) y0 y1 y2)
  | 0 => fun _ _ _ r h => by simp [laws_markIntSS.l0] at h
  | k + 1 => by
    have ih0 := laws_markIntSS.mono_l k
    intro y0 y1 y2
    unfold laws_markIntSS.l0
    exact LeO.ite (LeO.ite (LeO.bind (laws_markIntS.mono _ _ _) (fun _ => ih0 _ _ _)) (LeO.none _)) (LeO.refl _)
set_option maxHeartbeats 8000000 in
set_option maxRecDepth 100000 in
theorem laws_markIntSS.calls (k : Nat) (P : Nat → Prop) (v : Value) (l0 : List (List Int)) (a1 r1 : Int) (r2 : List (List Int)) (w0 w : World) (hB : Below w0.heap.size w0 w) (ho : Kd.S (Kd.slice 3 (Kd.int .i64)) 24 w w0.heap.size P v l0) (h : laws_markIntSS.f k l0 a1 = some (r1, r2)) :
    Calls Try.prog 23 #[v, .int .i64 a1] w fun e w' => e = .returned (.int .i64 r1) ∧ Kd.S (Kd.slice 3 (Kd.int .i64)) 24 w' w0.heap.size P v r2 ∧ Below w0.heap.size w0 w' ∧ Kept w w' P := by
  have HB := Aside0.mk hB
  have HO0 := Aside0.mk ho
  have KP := Aside0.mk (Kept.refl w P)
  clear hB ho
  obtain ⟨A0, c0, ev⟩ := Kd.S_slice HO0.out
  subst ev
  have H : laws_markIntSS.l0 k l0 a1 0 = some (r1, r2) := h
  clear h
  have H' := Aside0.mk H
  clear H
  go_enter Try.func23, Try.ntmps23
  go_wp2
  go_loopg [1, 5] k (fun kq v1 v5 w' => ∃ (x0 : List (List Int)) (x1_1 : Int) (x5_1 : Int), v1 = .int .i64 x1_1 ∧ v5 = .int .i64 x5_1 ∧ Aside0 (x0.length = l0.length) ∧ Aside0 (laws_markIntSS.l0 kq x0 x1_1 x5_1 = some (r1, r2)) ∧ Aside0 (kq ≤ k) ∧ Aside0 (Kd.S (Kd.slice 3 (Kd.int .i64)) 24 w' w0.heap.size P (.slice A0 l0.length c0) x0) ∧ Aside0 (Below w0.heap.size w0 w') ∧ Aside0 (Kept w w' P))
  case atStart => exact ⟨l0, a1, 0, (by first | rfl | (simp; done)), (by first | rfl | (simp; done)), ⟨rfl⟩, H', ⟨Nat.le_refl _⟩, ⟨(by (with_reducible repeat (first | apply Kd.S_alloc | apply Kd.S_drewN | apply Kd.S_drew)); exact HO0.out)⟩, ⟨(by repeat (first | (with_reducible first | exact HB.out | apply below_alloc | apply pw_below_drewN | apply below_drew1) | exact HB.out))⟩, ⟨(by (with_reducible repeat (first | apply Kept.alloc | apply Kept.drewN | apply Kept.drew)); exact KP.out)⟩⟩
  case round =>
    clear H' HB HO0 KP
    obtain ⟨x0, x1_1, x5_1, rfl, rfl, HLN, HA, HK1, HO, HB, KP⟩ := hrel
    cases gk with
    | zero => exact absurd HA.out (by simp [laws_markIntSS.l0])
    | succ k1 =>
      have H := HA.out
      clear HA
      simp only [laws_markIntSS.l0] at H
      by_cases c3 : x5_1 < (x0.length : Int)
      · rw [if_pos c3] at H
        by_cases c4 : 0 ≤ x5_1
        · rw [if_pos c4] at H
          replace H := Option.bind_eq_some_iff.mp H
          obtain ⟨⟨t1, t2⟩, A50, H⟩ := H
          replace H : laws_markIntSS.l0 k1 (x0.set x5_1.toNat t2) t1 (wrap64 (x5_1 + 1)) = some (r1, r2) := H
          have H' := Aside0.mk H
          have A5 := Aside0.mk A50
          clear H A50
          have c3l : x5_1 < (l0.length : Int) := by rw [← HLN.out]; exact c3
          have c3b0 : decide (x5_1 < (l0.length : Int)) = true := decide_eq_true c3l
          have c4b0 : decide (0 ≤ x5_1) = true := decide_eq_true c4
          have hpos : 0 < x0.length := by omega
          obtain ⟨g, co, eo, gb, gl, cl, HG⟩ := Kd.S_form HO.out hpos
          injection eo with ea_ en_ ec_
          subst ea_
          subst ec_
          clear en_ HG gl gb
          obtain ⟨oki, ce, hcl, hM, hcc, hfr, hoki, hH⟩ := Kd.S_elem HO.out [] x5_1 c4 c3l
          obtain ⟨ve, rfl, ge⟩ := hM
          have hx := hcc 0 _ rfl
          (try simp only [show ((Kd.slice 3 (Kd.int .i64))).sz = 1 from rfl, Nat.mul_one, Nat.add_zero] at hx)
          clear hcl hcc hfr
          have HOK := Aside0.mk hoki
          clear hoki
          have ge2 : Kd.R (Kd.int .i64) 3 _ w0.heap.size oki ve (rd_L1 x0 x5_1) := ge
          clear ge
          obtain ⟨Ae, cee, ee⟩ := Kd.R_slice ge2
          subst ee
          have GE := Aside0.mk ge2
          have HH := Aside0.mk hH
          have p164 := eq_true c4
          have q164 := eq_true c3l
          clear ge2 hH c3 c4 c3l
          go_wp2_with (first | ((with_reducible refine gate_callee (f := 31) rfl ?_); refine goesL_ (some 17) rfl rfl Try.func31 (by kernel_rfl) rfl #[.slice Ae (rd_L1 x0 x5_1).length cee, .int .i64 x1_1] rfl (by (try simp only [List.map_toArray, List.map_cons, List.map_nil]); first | done | rfl) ?_; (with_reducible refine (laws_markIntS.calls k1 (fun k_ => some k_ = (.slice Ae (rd_L1 x0 x5_1).length cee : Value).ownBlock) _ (rd_L1 x0 x5_1) x1_1 t1 t2 w0 _ ?s1 ?s2 A5.out).mono ?_); (case s1 => exact (by repeat (first | (with_reducible first | exact HB.out | apply below_alloc | apply pw_below_drewN | apply below_drew1) | exact HB.out))); (case s2 => exact Kd.R_tight rfl (by (with_reducible repeat (first | apply Kd.R_alloc | apply Kd.R_drewN | apply Kd.R_drew)); exact GE.out)); rintro e w2 ⟨rfl, hy, hb, hkp⟩; refine ⟨_, rfl, ?_⟩; have n0_ := Aside0.mk (Kd.H_kept (by (with_reducible repeat (first | apply Kd.H_alloc | apply Kd.H_drewN | apply Kd.H_drew)); exact HH.out) hkp (fun k_ _ hn_ hs_ => hn_ (GE.out.1 k_ hs_.symm))); have n1_ := Aside0.mk (Kd.H_back n0_.out (okp := oki) (x' := t2) ⟨_, rfl, Kd.R_mono (Kd.R_tight rfl hy) (fun k_ hk_ => GE.out.1 k_ hk_.symm)⟩ (fun _ hk_ => hk_)); have n2_ := Aside0.mk hb; have n3_ := Aside0.mk (Kept.then_ (by (with_reducible repeat (first | apply Kept.alloc | apply Kept.drewN | apply Kept.drew)); exact KP.out) hkp (fun k_ hk_ => .inl (HOK.out k_ (GE.out.1 k_ hk_.symm)).1)); clear HB HO KP hy hb hkp n0_; have HO := n1_; have HB := n2_; have KP := n3_; clear n1_ n2_ n3_))
          go_roundg k1
          case measure => have := HK1.out; omega
          case rel => exact ⟨x0.set x5_1.toNat t2, t1, wrap64 (x5_1 + 1), (by first | rfl | (simp; done) | (simp [*]; done)), (by first | rfl | (simp; done) | (simp [*]; done)), ⟨by rw [List.length_set]; exact HLN.out⟩, H', ⟨by have := HK1.out; omega⟩, ⟨(by (with_reducible repeat (first | apply Kd.S_alloc | apply Kd.S_drewN | apply Kd.S_drew)); exact HO.out)⟩, ⟨(by repeat (first | (with_reducible first | exact HB.out | apply below_alloc | apply pw_below_drewN | apply below_drew1) | exact HB.out))⟩, ⟨(by (with_reducible repeat (first | apply Kept.alloc | apply Kept.drewN | apply Kept.drew)); exact KP.out)⟩⟩
        · rw [if_neg c4] at H
          exact absurd H (by simp)
      · rw [if_neg c3] at H
        have c3b0 : decide (x5_1 < (l0.length : Int)) = false := decide_eq_false (by rw [← HLN.out]; exact c3)
        clear c3
        simp only [Option.some.injEq, Prod.mk.injEq] at H
        obtain ⟨rfl, rfl⟩ := H
        go_wp2
        go_ret
        exact ⟨by first | rfl | (simp; done) | (simp [*]; done), (by (with_reducible repeat (first | apply Kd.S_alloc | apply Kd.S_drewN | apply Kd.S_drew)); exact HO.out), (by repeat (first | (with_reducible first | exact HB.out | apply below_alloc | apply pw_below_drewN | apply below_drew1) | exact HB.out)), (by (with_reducible repeat (first | apply Kept.alloc | apply Kept.drewN | apply Kept.drew)); exact KP.out)⟩
/-! ### the law: its straight walk -/
def laws_FnExactGrowthOf.Facts (k : Nat) (l0 : List (List Int)) (left : Int) (L M : List Int) (b : Bool) (m mx : Int) (X : List (List Int)) : Prop :=
  ¬ left < 0 ∧ laws_toIntSS.f k l0 = some l0 ∧ spec_GrowthOf.f k l0 = some (L, b) ∧ impl_GrowthOf.f k l0 = some (L, b) ∧ laws_eqIntS.f k L L = some true ∧ laws_eqIntSS.f k l0 l0 = some true ∧ laws_markIntSS.f k l0 1 = some (mx, X) ∧ ¬ mx < 0 ∧ laws_markIntS.f k L 1 = some (m, M) ∧ M.length = L.length ∧ laws_heldIntS.f k M 1 = some m ∧ ¬ m < 0
set_option maxHeartbeats 8000000 in
set_option maxRecDepth 100000 in
theorem laws_FnExactGrowthOf.straight (k : Nat) (A0 : Option Addr) (c0 : Nat) (l0 : List (List Int)) (left : Int) (L M : List Int) (b : Bool) (m mx : Int) (X : List (List Int)) (w : World) (hr0 : Kd.C (Kd.slice 3 (Kd.int .i64)) w A0 l0.length l0) (hc0 : l0.length ≤ c0) (hz : laws_szIntSS.f k l0 1048576 = some left) (hf : laws_FnExactGrowthOf.Facts k l0 left L M b m mx X) :
    Calls Try.prog 6 #[.slice A0 l0.length c0] w fun e w' => e = .returned (.bool true) ∧ Below w.heap.size w w' := by
  obtain ⟨hl0, ht, hs, hi, he, hxe, hxm, hmx0, hm, hml, hh, hm0⟩ := hf
  have HR0 := Aside0.mk hr0
  have HC0 := Aside0.mk hc0
  have HZ := Aside0.mk hz
  have HT := Aside0.mk ht
  have HS := Aside0.mk hs
  have HI := Aside0.mk hi
  have HE := Aside0.mk he
  have HXE := Aside0.mk hxe
  have HXM := Aside0.mk hxm
  have HM := Aside0.mk hm
  have HML := Aside0.mk hml
  have HH := Aside0.mk hh
  have c0b : decide (m < 0) = false := decide_eq_false hm0
  have c1b : decide (mx < 0) = false := decide_eq_false hmx0
  have c2b : decide (left < 0) = false := decide_eq_false hl0
  clear hr0 hc0 hz ht hs hi he hxe hxm hmx0 hm hml hh hm0 hl0
  have HB := Aside0.mk (Below.refl w.heap.size w)
  go_enter Try.func6, Try.ntmps6
  go_wp2_with (first | ((with_reducible refine gate_callee (f := 27) rfl ?_); refine goesL_ (some 16) rfl rfl Try.func27 (by kernel_rfl) rfl #[.slice A0 l0.length c0, .int .i64 1048576] rfl (by (try simp only [List.map_toArray, List.map_cons, List.map_nil]); first | done | rfl) ?_; (with_reducible refine (laws_szIntSS.calls k _ _ l0 1048576 left _ ?side1 ?side2 HZ.out).mono ?_); (case side1 => exact Kd.C_below HR0.out (by repeat (first | (with_reducible first | exact HB.out | apply below_alloc | apply pw_below_drewN | apply below_drew1) | exact HB.out))); (case side2 => exact HC0.out); rintro e w' ⟨rfl, ⟨nd, rfl⟩⟩; refine ⟨_, rfl, ?_⟩) | ((with_reducible refine gate_callee (f := 29) rfl ?_); refine goesL_ (some 21) rfl rfl Try.func29 (by kernel_rfl) rfl #[.slice A0 l0.length c0] rfl (by (try simp only [List.map_toArray, List.map_cons, List.map_nil]); first | done | rfl) ?_; (with_reducible refine (laws_toIntSS.calls k _ _ l0 l0 _ ?side1 ?side2 HT.out).mono ?_); (case side1 => exact Kd.C_below HR0.out (by repeat (first | (with_reducible first | exact HB.out | apply below_alloc | apply pw_below_drewN | apply below_drew1) | exact HB.out))); (case side2 => exact HC0.out); rintro e wt ⟨vt, rfl, ho, hb⟩; refine ⟨_, rfl, ?_⟩; have HOa := Aside0.mk ho; have n1_ := Aside0.mk (below_step (by repeat (first | (with_reducible first | exact HB.out | apply below_alloc | apply pw_below_drewN | apply below_drew1) | exact HB.out)) hb); clear HB ho hb; have HB := n1_; clear n1_; obtain ⟨Aa, ca, ea⟩ := Kd.S_slice HOa.out; subst ea) | ((with_reducible refine gate_callee (f := 28) rfl ?_); refine goesL_ (some 22) rfl rfl Try.func28 (by kernel_rfl) rfl #[.slice Aa l0.length ca] rfl (by (try simp only [List.map_toArray, List.map_cons, List.map_nil]); first | done | rfl) ?_; (with_reducible refine (spec_GrowthOf.calls k _ _ l0 L b _ ?side1 ?side2 HS.out).mono ?_); (case side1 => repeat (first | exact (Kd.S_reads' HOa.out).2.2 | (with_reducible refine Kd.C_alloc ?_ _) | (with_reducible refine Kd.C_drewN ?_ _) | (with_reducible refine Kd.C_drew ?_))); (case side2 => exact (Kd.S_reads' HOa.out).2.1); rintro e wr ⟨vr, rfl, ho, hb⟩; refine ⟨_, rfl, ?_⟩; have F1 := Aside0.mk (Kd.R_lower ho (below_size (by repeat (first | (with_reducible first | exact HB.out | apply below_alloc | apply pw_below_drewN | apply below_drew1) | exact HB.out)))); have n1_ := Aside0.mk (below_step (by repeat (first | (with_reducible first | exact HB.out | apply below_alloc | apply pw_below_drewN | apply below_drew1) | exact HB.out)) hb); clear HB HOa ho hb; have HB := n1_; clear n1_; obtain ⟨Ab, cb, eb⟩ := Kd.R_slice F1.out; subst eb) | ((with_reducible refine gate_callee (f := 29) rfl ?_); refine goesL_ (some 26) rfl rfl Try.func29 (by kernel_rfl) rfl #[.slice A0 l0.length c0] rfl (by (try simp only [List.map_toArray, List.map_cons, List.map_nil]); first | done | rfl) ?_; (with_reducible refine (laws_toIntSS.calls k _ _ l0 l0 _ ?side1 ?side2 HT.out).mono ?_); (case side1 => exact Kd.C_below HR0.out (by repeat (first | (with_reducible first | exact HB.out | apply below_alloc | apply pw_below_drewN | apply below_drew1) | exact HB.out))); (case side2 => exact HC0.out); rintro e wt ⟨vt, rfl, ho, hb⟩; refine ⟨_, rfl, ?_⟩; obtain ⟨ww, F1w, HBw, HX, X0⟩ : ∃ ww : World, Aside0 (Kd.R (Kd.int .i64) 3 ww w.heap.size (fun _ => True) (.slice Ab L.length cb) L) ∧ Aside0 (Below w.heap.size w ww) ∧ Aside0 (Below ww.heap.size ww wt) ∧ Aside0 (Kd.S (Kd.slice 3 (Kd.int .i64)) 24 wt ww.heap.size (fun _ => True) vt l0) := ⟨_, ⟨(by (with_reducible repeat (first | apply Kd.R_alloc | apply Kd.R_drewN | apply Kd.R_drew)); exact F1.out)⟩, ⟨(by repeat (first | (with_reducible first | exact HB.out | apply below_alloc | apply pw_below_drewN | apply below_drew1) | exact HB.out))⟩, ⟨hb⟩, ⟨ho⟩⟩; clear F1 HB ho hb; have F1 := Aside0.mk (Kd.R_below F1w.out HX.out); obtain ⟨Ac, cc, ec⟩ := Kd.S_slice X0.out; subst ec) | ((with_reducible refine gate_callee (f := 17) rfl ?_); refine goesL_ (some 29) rfl rfl Try.func17 (by kernel_rfl) rfl #[.slice Ac l0.length cc] rfl (by (try simp only [List.map_toArray, List.map_cons, List.map_nil]); first | done | rfl) ?_; (with_reducible refine (impl_GrowthOf.calls k _ _ l0 L b _ ?side1 ?side2 HI.out).mono ?_); (case side1 => repeat (first | exact (Kd.S_reads' X0.out).2.2 | (with_reducible refine Kd.C_alloc ?_ _) | (with_reducible refine Kd.C_drewN ?_ _) | (with_reducible refine Kd.C_drew ?_))); (case side2 => exact (Kd.S_reads' X0.out).2.1); rintro e wr ⟨vr, rfl, ho, hb⟩; refine ⟨_, rfl, ?_⟩; obtain ⟨N0, n0_, n1_⟩ : ∃ N0 : Nat, Aside0 (Kd.S (Kd.slice 3 (Kd.int .i64)) 24 wr ww.heap.size (fun k_ => k_ < N0) (.slice Ac l0.length cc) l0) ∧ Aside0 (Kd.R (Kd.int .i64) 3 wr ww.heap.size (fun k_ => N0 ≤ k_) vr L) := ⟨_, ⟨Kd.S_mono (Kd.S_below (Kd.S_bound (by (with_reducible repeat (first | apply Kd.S_alloc | apply Kd.S_drewN | apply Kd.S_drew)); exact X0.out)) hb) (fun _ h_ => h_.2.2.1)⟩, ⟨Kd.R_lower (Kd.R_mono (Kd.R_bound ho) (fun _ h_ => h_.2.1)) (below_size (by repeat (first | (with_reducible first | exact HX.out | apply below_alloc | apply pw_below_drewN | apply below_drew1) | exact HX.out)))⟩⟩; have n2_ := Aside0.mk (below_step (by repeat (first | (with_reducible first | exact HX.out | apply below_alloc | apply pw_below_drewN | apply below_drew1) | exact HX.out)) hb); clear X0 HX F1 ho hb; have X0 := n0_; have G0 := n1_; have HX := n2_; clear n0_ n1_ n2_; have F1 := Aside0.mk (Kd.R_below F1w.out HX.out); obtain ⟨Ag, cg, eg⟩ := Kd.R_slice G0.out; subst eg) | ((with_reducible refine gate_callee (f := 30) rfl ?_); refine goesL_ (some 34) rfl rfl Try.func30 (by kernel_rfl) rfl #[.slice Ag L.length cg, .slice Ab L.length cb] rfl (by (try simp only [List.map_toArray, List.map_cons, List.map_nil]); first | done | rfl) ?_; (with_reducible refine (laws_eqIntS.calls k _ _ L _ _ L true _ ?side1 ?side2 ?side3 ?side4 HE.out).mono ?_); (case side1 => repeat (first | exact (Kd.R_reads' G0.out).2.2 | (with_reducible refine Kd.C_alloc ?_ _) | (with_reducible refine Kd.C_drewN ?_ _) | (with_reducible refine Kd.C_drew ?_))); (case side2 => exact (Kd.R_reads' G0.out).2.1); (case side3 => repeat (first | exact (Kd.R_reads' F1.out).2.2 | (with_reducible refine Kd.C_alloc ?_ _) | (with_reducible refine Kd.C_drewN ?_ _) | (with_reducible refine Kd.C_drew ?_))); (case side4 => exact (Kd.R_reads' F1.out).2.1); rintro e w' ⟨rfl, ⟨nd, rfl⟩⟩; refine ⟨_, rfl, ?_⟩) | ((with_reducible refine gate_callee (f := 29) rfl ?_); refine goesL_ (some 43) rfl rfl Try.func29 (by kernel_rfl) rfl #[.slice A0 l0.length c0] rfl (by (try simp only [List.map_toArray, List.map_cons, List.map_nil]); first | done | rfl) ?_; (with_reducible refine (laws_toIntSS.calls k _ _ l0 l0 _ ?side1 ?side2 HT.out).mono ?_); (case side1 => exact Kd.C_below HR0.out (below_step HBw.out (by repeat (first | (with_reducible first | exact HX.out | apply below_alloc | apply pw_below_drewN | apply below_drew1) | exact HX.out)))); (case side2 => exact HC0.out); rintro e wt ⟨vt, rfl, ho, hb⟩; refine ⟨_, rfl, ?_⟩; have n0_ := Aside0.mk (Kd.S_below (by (with_reducible repeat (first | apply Kd.S_alloc | apply Kd.S_drewN | apply Kd.S_drew)); exact X0.out) hb); have n1_ := Aside0.mk (Kd.R_below (by (with_reducible repeat (first | apply Kd.R_alloc | apply Kd.R_drewN | apply Kd.R_drew)); exact G0.out) hb); have n2_ := Aside0.mk (below_step (by repeat (first | (with_reducible first | exact HX.out | apply below_alloc | apply pw_below_drewN | apply below_drew1) | exact HX.out)) hb); have HOt := Aside0.mk ho; clear X0 G0 HX F1 ho hb; have X0 := n0_; have G0 := n1_; have HX := n2_; clear n0_ n1_ n2_; have F1 := Aside0.mk (Kd.R_below F1w.out HX.out); obtain ⟨At, ct, et⟩ := Kd.S_slice HOt.out; subst et) | ((with_reducible refine gate_callee (f := 22) rfl ?_); refine goesL_ (some 44) rfl rfl Try.func22 (by kernel_rfl) rfl #[.slice Ac l0.length cc, .slice At l0.length ct] rfl (by (try simp only [List.map_toArray, List.map_cons, List.map_nil]); first | done | rfl) ?_; (with_reducible refine (laws_eqIntSS.calls k _ _ l0 _ _ l0 true _ ?side1 ?side2 ?side3 ?side4 HXE.out).mono ?_); (case side1 => repeat (first | exact (Kd.S_reads' X0.out).2.2 | (with_reducible refine Kd.C_alloc ?_ _) | (with_reducible refine Kd.C_drewN ?_ _) | (with_reducible refine Kd.C_drew ?_))); (case side2 => exact (Kd.S_reads' X0.out).2.1); (case side3 => repeat (first | exact (Kd.S_reads' HOt.out).2.2 | (with_reducible refine Kd.C_alloc ?_ _) | (with_reducible refine Kd.C_drewN ?_ _) | (with_reducible refine Kd.C_drew ?_))); (case side4 => exact (Kd.S_reads' HOt.out).2.1); rintro e w' ⟨rfl, ⟨nd, rfl⟩⟩; refine ⟨_, rfl, ?_⟩) | ((with_reducible refine gate_callee (f := 23) rfl ?_); refine goesL_ (some 48) rfl rfl Try.func23 (by kernel_rfl) rfl #[.slice Ac l0.length cc, .int .i64 1] rfl (by (try simp only [List.map_toArray, List.map_cons, List.map_nil]); first | done | rfl) ?_; (with_reducible refine (laws_markIntSS.calls k (fun k_ => k_ < N0) _ l0 1 mx X ww _ ?s1 ?s2 HXM.out).mono ?_); (case s1 => exact (by repeat (first | (with_reducible first | exact HX.out | apply below_alloc | apply pw_below_drewN | apply below_drew1) | exact HX.out))); (case s2 => exact (by (with_reducible repeat (first | apply Kd.S_alloc | apply Kd.S_drewN | apply Kd.S_drew)); exact X0.out)); rintro e w8 ⟨rfl, hy, hb, hkp⟩; refine ⟨_, rfl, ?_⟩; have n1_ := Aside0.mk (Kd.R_kept (by (with_reducible repeat (first | apply Kd.R_alloc | apply Kd.R_drewN | apply Kd.R_drew)); exact G0.out) hkp (fun k_ hk_ hs_ => Nat.lt_irrefl _ (Nat.lt_of_lt_of_le hs_ hk_))); clear X0 G0 HX F1 HOt hy hkp; have G0 := n1_; have HX := Aside0.mk hb; clear n1_ hb; have F1 := Aside0.mk (Kd.R_below F1w.out HX.out)) | (go_at_call 30; (with_reducible refine (laws_eqIntS.calls k _ _ L _ _ L true _ ?side1 ?side2 ?side3 ?side4 HE.out).mono ?_); (case side1 => repeat (first | exact (Kd.R_reads' G0.out).2.2 | (with_reducible refine Kd.C_alloc ?_ _) | (with_reducible refine Kd.C_drewN ?_ _) | (with_reducible refine Kd.C_drew ?_))); (case side2 => exact (Kd.R_reads' G0.out).2.1); (case side3 => repeat (first | exact (Kd.R_reads' F1.out).2.2 | (with_reducible refine Kd.C_alloc ?_ _) | (with_reducible refine Kd.C_drewN ?_ _) | (with_reducible refine Kd.C_drew ?_))); (case side4 => exact (Kd.R_reads' F1.out).2.1); rintro e w' ⟨rfl, ⟨nd, rfl⟩⟩) | ((with_reducible refine gate_callee (f := 31) rfl ?_); refine goesL_ (some 64) rfl rfl Try.func31 (by kernel_rfl) rfl #[.slice Ag L.length cg, .int .i64 1] rfl (by (try simp only [List.map_toArray, List.map_cons, List.map_nil]); first | done | rfl) ?_; (with_reducible refine (laws_markIntS.calls k (fun k_ => some k_ = (.slice Ag L.length cg : Value).ownBlock) _ L 1 m M ww _ ?s1 ?s2 HM.out).mono ?_); (case s1 => exact (by repeat (first | (with_reducible first | exact HX.out | apply below_alloc | apply pw_below_drewN | apply below_drew1) | exact HX.out))); (case s2 => exact Kd.R_tight rfl (by (with_reducible repeat (first | apply Kd.R_alloc | apply Kd.R_drewN | apply Kd.R_drew)); exact G0.out)); rintro e w3 ⟨rfl, ho, hb, _⟩; refine ⟨_, rfl, ?_⟩; clear G0 HX F1; have G0 := Aside0.mk ho; have HX := Aside0.mk hb; clear ho hb; have F1 := Aside0.mk (Kd.R_below F1w.out HX.out)) | ((with_reducible refine gate_callee (f := 32) rfl ?_); refine goesL_ (some 67) rfl rfl Try.func32 (by kernel_rfl) rfl #[.slice Ag L.length cg, .int .i64 1] rfl (by (try simp only [List.map_toArray, List.map_cons, List.map_nil]); first | done | rfl) ?_; refine calls_of_args (args' := #[.slice Ag M.length cg, .int .i64 1]) (by rw [HML.out]) ?_; (with_reducible refine (laws_heldIntS.calls k _ _ M 1 m _ ?side1 ?side2 HH.out).mono ?_); (case side1 => repeat (first | exact (Kd.R_reads' G0.out).2.2 | (with_reducible refine Kd.C_alloc ?_ _) | (with_reducible refine Kd.C_drewN ?_ _) | (with_reducible refine Kd.C_drew ?_))); (case side2 => (rw [HML.out]; exact (Kd.R_reads' G0.out).2.1)); rintro e w' ⟨rfl, ⟨nd, rfl⟩⟩; refine ⟨_, rfl, ?_⟩) | ((with_reducible refine gate_callee (f := 29) rfl ?_); refine goesL_ (some 75) rfl rfl Try.func29 (by kernel_rfl) rfl #[.slice A0 l0.length c0] rfl (by (try simp only [List.map_toArray, List.map_cons, List.map_nil]); first | done | rfl) ?_; (with_reducible refine (laws_toIntSS.calls k _ _ l0 l0 _ ?side1 ?side2 HT.out).mono ?_); (case side1 => exact Kd.C_below HR0.out (below_step HBw.out (by repeat (first | (with_reducible first | exact HX.out | apply below_alloc | apply pw_below_drewN | apply below_drew1) | exact HX.out)))); (case side2 => exact HC0.out); rintro e wt ⟨vt, rfl, ho, hb⟩; refine ⟨_, rfl, ?_⟩; have n1_ := Aside0.mk (Kd.R_below (by (with_reducible repeat (first | apply Kd.R_alloc | apply Kd.R_drewN | apply Kd.R_drew)); exact G0.out) hb); have n2_ := Aside0.mk (below_step (by repeat (first | (with_reducible first | exact HX.out | apply below_alloc | apply pw_below_drewN | apply below_drew1) | exact HX.out)) hb); have HOt := Aside0.mk ho; clear G0 HX F1 ho hb; have G0 := n1_; have HX := n2_; clear n1_ n2_; have F1 := Aside0.mk (Kd.R_below F1w.out HX.out); obtain ⟨Au, cu, eu⟩ := Kd.S_slice HOt.out; subst eu) | ((with_reducible refine gate_callee (f := 17) rfl ?_); refine goesL_ (some 76) rfl rfl Try.func17 (by kernel_rfl) rfl #[.slice Au l0.length cu] rfl (by (try simp only [List.map_toArray, List.map_cons, List.map_nil]); first | done | rfl) ?_; (with_reducible refine (impl_GrowthOf.calls k _ _ l0 L b _ ?side1 ?side2 HI.out).mono ?_); (case side1 => repeat (first | exact (Kd.S_reads' HOt.out).2.2 | (with_reducible refine Kd.C_alloc ?_ _) | (with_reducible refine Kd.C_drewN ?_ _) | (with_reducible refine Kd.C_drew ?_))); (case side2 => exact (Kd.S_reads' HOt.out).2.1); rintro e wr ⟨vr, rfl, ho, hb⟩; refine ⟨_, rfl, ?_⟩; have n1_ := Aside0.mk (Kd.R_below (by (with_reducible repeat (first | apply Kd.R_alloc | apply Kd.R_drewN | apply Kd.R_drew)); exact G0.out) hb); have n2_ := Aside0.mk (below_step (by repeat (first | (with_reducible first | exact HX.out | apply below_alloc | apply pw_below_drewN | apply below_drew1) | exact HX.out)) hb); have HO3 := Aside0.mk ho; clear G0 HX F1 HOt ho hb; have G0 := n1_; have HX := n2_; clear n1_ n2_; have F1 := Aside0.mk (Kd.R_below F1w.out HX.out); obtain ⟨Ah, ch, eh⟩ := Kd.R_slice HO3.out; subst eh) | ((with_reducible refine gate_callee (f := 30) rfl ?_); refine goesL_ (some 81) rfl rfl Try.func30 (by kernel_rfl) rfl #[.slice Ah L.length ch, .slice Ab L.length cb] rfl (by (try simp only [List.map_toArray, List.map_cons, List.map_nil]); first | done | rfl) ?_; (with_reducible refine (laws_eqIntS.calls k _ _ L _ _ L true _ ?side1 ?side2 ?side3 ?side4 HE.out).mono ?_); (case side1 => repeat (first | exact (Kd.R_reads' HO3.out).2.2 | (with_reducible refine Kd.C_alloc ?_ _) | (with_reducible refine Kd.C_drewN ?_ _) | (with_reducible refine Kd.C_drew ?_))); (case side2 => exact (Kd.R_reads' HO3.out).2.1); (case side3 => repeat (first | exact (Kd.R_reads' F1.out).2.2 | (with_reducible refine Kd.C_alloc ?_ _) | (with_reducible refine Kd.C_drewN ?_ _) | (with_reducible refine Kd.C_drew ?_))); (case side4 => exact (Kd.R_reads' F1.out).2.1); rintro e w' ⟨rfl, ⟨nd, rfl⟩⟩; refine ⟨_, rfl, ?_⟩) | ((with_reducible refine gate_callee (f := 32) rfl ?_); refine goesL_ (some 90) rfl rfl Try.func32 (by kernel_rfl) rfl #[.slice Ag L.length cg, .int .i64 1] rfl (by (try simp only [List.map_toArray, List.map_cons, List.map_nil]); first | done | rfl) ?_; refine calls_of_args (args' := #[.slice Ag M.length cg, .int .i64 1]) (by rw [HML.out]) ?_; (with_reducible refine (laws_heldIntS.calls k _ _ M 1 m _ ?side1 ?side2 HH.out).mono ?_); (case side1 => repeat (first | exact (Kd.R_reads' G0.out).2.2 | (with_reducible refine Kd.C_alloc ?_ _) | (with_reducible refine Kd.C_drewN ?_ _) | (with_reducible refine Kd.C_drew ?_))); (case side2 => (rw [HML.out]; exact (Kd.R_reads' G0.out).2.1)); rintro e w' ⟨rfl, ⟨nd, rfl⟩⟩; refine ⟨_, rfl, ?_⟩))
  go_ret
  exact ⟨by first | rfl | (simp; done) | (simp [*]; done), below_step HBw.out (by repeat (first | (with_reducible first | exact HX.out | apply below_alloc | apply pw_below_drewN | apply below_drew1) | exact HX.out))⟩
set_option maxHeartbeats 8000000 in
theorem laws_FnExactGrowthOf.long (k : Nat) (A0 : Option Addr) (c0 : Nat) (l0 : List (List Int)) (left : Int) (w : World) (hr0 : Kd.C (Kd.slice 3 (Kd.int .i64)) w A0 l0.length l0) (hc0 : l0.length ≤ c0) (hz : laws_szIntSS.f k l0 1048576 = some left) (hl0 : left < 0) :
    Calls Try.prog 6 #[.slice A0 l0.length c0] w fun e w' => e = .returned (.bool true) ∧ Below w.heap.size w w' := by
  have HB := Aside0.mk (Below.refl w.heap.size w)
  have HR0 := Aside0.mk hr0
  have HC0 := Aside0.mk hc0
  have HZ := Aside0.mk hz
  have c2b : decide (left < 0) = true := decide_eq_true hl0
  clear hr0 hc0 hz hl0
  go_enter Try.func6, Try.ntmps6
  go_wp2_with (first | ((with_reducible refine gate_callee (f := 27) rfl ?_); refine goesL_ (some 16) rfl rfl Try.func27 (by kernel_rfl) rfl #[.slice A0 l0.length c0, .int .i64 1048576] rfl (by (try simp only [List.map_toArray, List.map_cons, List.map_nil]); first | done | rfl) ?_; (with_reducible refine (laws_szIntSS.calls k _ _ l0 1048576 left _ ?side1 ?side2 HZ.out).mono ?_); (case side1 => exact Kd.C_below HR0.out (by repeat (first | (with_reducible first | exact HB.out | apply below_alloc | apply pw_below_drewN | apply below_drew1) | exact HB.out))); (case side2 => exact HC0.out); rintro e w' ⟨rfl, ⟨nd, rfl⟩⟩; refine ⟨_, rfl, ?_⟩))
  go_ret
  exact ⟨by first | rfl | (simp; done) | (simp [*]; done), (by repeat (first | (with_reducible first | exact HB.out | apply below_alloc | apply pw_below_drewN | apply below_drew1) | exact HB.out))⟩
/-- The rows that came in. -/
theorem rows_open {W : World} {a0 : Option Addr} {len0 cap0 : Nat} (h : (a0 = none ∧ len0 = 0 ∧ cap0 = 0) ∨ ∃ (a : Addr) (A : Nat → Option Addr) (L C : Nat → Nat) (Z : Nat → List Int), a0 = some a ∧ len0 ≤ cap0 ∧ cap0 ≤ maxLen ∧
      ∀ r, r < cap0 → W.cell? (a.add r) = some (.slice (A r) (L r) (C r)) ∧ L r ≤ C r ∧ C r ≤ maxLen ∧ (Z r).length = C r ∧ (A r = none → C r = 0) ∧ ∀ a', A r = some a' → ∀ c, c < C r → W.cell? (a'.add c) = some (.int .i64 ((Z r).getD c 0))) :
    ∃ l0 : List (List Int), len0 = l0.length ∧ Kd.C (Kd.slice 3 (Kd.int .i64)) W a0 l0.length l0 ∧ l0.length ≤ cap0 ∧ l0.length ≤ maxLen ∧ ∀ x ∈ l0, x.length ≤ maxLen := by
  have hM : maxLen ≤ 9223372036854775807 := by decide
  rcases h with ⟨rfl, rfl, rfl⟩ | ⟨a, A, L, C, Z, rfl, hl, hm, hr⟩
  · exact ⟨[], rfl, Kd.C_nil _ _, Nat.le_refl _, Nat.zero_le _, fun x hx => by cases hx⟩
  · have hlen : ∀ r, r < cap0 → ((Z r).take (L r)).length = L r := fun r h1 => by
      obtain ⟨_, h2, _, h3, _⟩ := hr r h1
      rw [List.length_take]; omega
    refine ⟨(List.range len0).map fun r => (Z r).take (L r), by simp, ⟨rfl, by simp; omega, fun _ => ⟨a, rfl, fun j p hj => ?_⟩⟩, by simpa using hl, by simp; omega, fun x hx => ?_⟩
    · rw [List.getElem?_map] at hj
      obtain ⟨j', hj', rfl⟩ := Option.map_eq_some_iff.1 hj
      obtain ⟨hj1, hj2⟩ := List.getElem?_eq_some_iff.1 hj'
      rw [List.getElem_range] at hj2
      subst hj2
      have hjl : j < cap0 := by rw [List.length_range] at hj1; omega
      obtain ⟨h1, h2, h3, h4, h5, h6⟩ := hr j hjl
      have h7 := hlen j hjl
      refine ⟨[.slice (A j) (L j) (C j)], rfl, ⟨A j, C j, by rw [h7], by rw [h7]; exact h2, Kd.C_of_reads (d := (0 : Int)) (h1 := fun _ => rfl) ⟨rfl, by rw [h7]; omega, fun hp => ?_⟩⟩, fun i u hu => ?_⟩
      · rw [h7] at hp
        cases hA : A j with
        | none => have := h5 hA; omega
        | some a' =>
          refine ⟨a', rfl, fun c hc => ?_⟩
          rw [h7] at hc
          rw [h6 a' hA c (by omega)]
          simp [List.getD_eq_getElem?_getD, hc]
      · cases i with
        | zero =>
          obtain rfl : Value.slice (A j) (L j) (C j) = u := by simpa using hu
          rw [show ((Kd.slice 3 (Kd.int .i64))).sz = 1 from rfl, Nat.mul_one, Nat.add_zero]; exact h1
        | succ i => simp at hu
    · obtain ⟨r, h1, rfl⟩ := List.mem_map.1 hx
      have h2 : r < cap0 := by have := List.mem_range.1 h1; omega
      rw [hlen r h2]
      obtain ⟨_, h3, h4, _⟩ := hr r h2
      omega
theorem laws_FnExactGrowthOf.walk (P : ∀ l0 : List (List Int), l0.length ≤ maxLen → (∀ x ∈ l0, x.length ≤ maxLen) → ∃ k left, laws_szIntSS.f k l0 1048576 = some left ∧ (left < 0 ∨ ∃ L M b m mx X, laws_FnExactGrowthOf.Facts k l0 left L M b m mx X)) (A0 : Option Addr) (c0 : Nat) (l0 : List (List Int)) (w : World) (hr0 : Kd.C (Kd.slice 3 (Kd.int .i64)) w A0 l0.length l0) (hc0 : l0.length ≤ c0) (hm0 : l0.length ≤ maxLen) (hm1 : ∀ x ∈ l0, x.length ≤ maxLen) :
    Calls Try.prog 6 #[.slice A0 l0.length c0] w fun e w' => e = .returned (.bool true) ∧ Below w.heap.size w w' := by
  obtain ⟨k, left, hz, h | ⟨L, M, b, m, mx, X, hf⟩⟩ := P l0 hm0 hm1
  · exact laws_FnExactGrowthOf.long k A0 c0 l0 left w hr0 hc0 hz h
  · exact laws_FnExactGrowthOf.straight k A0 c0 l0 left L M b m mx X w hr0 hc0 hz hf

end Go.Proofs.Ytoledgkfohkfkaa.HFnExactGrowthOf
