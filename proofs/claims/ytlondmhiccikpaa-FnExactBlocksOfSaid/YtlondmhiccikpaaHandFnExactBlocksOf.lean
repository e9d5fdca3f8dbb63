/- Written by this session's program handmark.py: a function that writes the rows of a row of rows, and a law's walk, by hand. -/
import Derived.Test.YtlondmhiccikpaaHFnExactBlocksOfx0
import Derived.Test.YtlondmhiccikpaaHFnExactBlocksOfx2
import Derived.Test.YtlondmhiccikpaaHFnExactBlocksOfx3
namespace Go.Proofs.Ytlondmhiccikpaa.HFnExactBlocksOf
open Go.RowKit Go.Proofs.YtlondmhiccikpaaW.PrintWords Go.Proofs.YtlondmhiccikpaaW.PrintLast Go.Proofs.YtlondmhiccikpaaW.PrintMore
set_option linter.unusedVariables false
/-! ### laws.markIntSS: by hand -/
def laws_markIntSS.l0 : Nat → List (List Int) → Int → Int → Option (Int × List (List Int))
  | 0, _, _, _ => none
  | k + 1, x0, x1, x5 => if x5 < (x0.length : Int) then (if 0 ≤ x5 then ((laws_markIntS.f k (rd_L1 x0 x5) x1).bind fun bt => laws_markIntSS.l0 k (x0.set x5.toNat bt.2) bt.1 (wrap64 (x5 + 1))) else none) else some (x1, x0)
def laws_markIntSS.f (k : Nat) (l0 : List (List Int)) (a1 : Int) : Option (Int × List (List Int)) := laws_markIntSS.l0 k l0 a1 0
theorem laws_markIntSS.mono_l : ∀ k, ∀ y0 y1 y2, LeO (laws_markIntSS.l0 k y0 y1 y2) (laws_markIntSS.l0 (k + 1) y0 y1 y2)
  | 0 => fun _ _ _ r h => by simp [laws_markIntSS.l0] at h
  | k + 1 => by
    have ih0 := laws_markIntSS.mono_l k
    intro y0 y1 y2
    unfold laws_markIntSS.l0
    exact LeO.ite (LeO.ite (LeO.bind (laws_markIntS.mono _ _ _) (fun _ => ih0 _ _ _)) (LeO.none _)) (LeO.refl _)
set_option maxHeartbeats 8000000 in
set_option maxRecDepth 100000 in
theorem laws_markIntSS.calls (k : Nat) (P : Nat → Prop) (v : Value) (l0 : List (List Int)) (a1 r1 : Int) (r2 : List (List Int)) (w0 w : World) (hB : Below w0.heap.size w0 w) (ho : Kd.S (Kd.slice 3 (Kd.int .i64)) 22 w w0.heap.size P v l0) (h : laws_markIntSS.f k l0 a1 = some (r1, r2)) :
    Calls Try.prog 51 #[v, .int .i64 a1] w fun e w' => e = .returned (.int .i64 r1) ∧ Kd.S (Kd.slice 3 (Kd.int .i64)) 22 w' w0.heap.size (fun _ => True) v r2 ∧ Below w0.heap.size w0 w' := by
  have HB := Aside0.mk hB
  have HO0 := Aside0.mk (Kd.S_mono (ok' := fun _ => True) ho (fun _ _ => trivial))
  clear hB ho
  obtain ⟨A0, c0, ev⟩ := Kd.S_slice HO0.out
  subst ev
  have H : laws_markIntSS.l0 k l0 a1 0 = some (r1, r2) := h
  clear h
  have H' := Aside0.mk H
  clear H
  go_enter Try.func51, Try.ntmps51
  go_wp2
  go_loopg [1, 5] k (fun kq v1 v5 w' => ∃ (x0 : List (List Int)) (x1_1 : Int) (x5_1 : Int), v1 = .int .i64 x1_1 ∧ v5 = .int .i64 x5_1 ∧ Aside0 (x0.length = l0.length) ∧ Aside0 (laws_markIntSS.l0 kq x0 x1_1 x5_1 = some (r1, r2)) ∧ Aside0 (kq ≤ k) ∧ Aside0 (Kd.S (Kd.slice 3 (Kd.int .i64)) 22 w' w0.heap.size (fun _ => True) (.slice A0 l0.length c0) x0) ∧ Aside0 (Below w0.heap.size w0 w'))
  case atStart => exact ⟨l0, a1, 0, (by first | rfl | (simp; done)), (by first | rfl | (simp; done)), ⟨rfl⟩, H', ⟨Nat.le_refl _⟩, ⟨(by (with_reducible repeat (first | apply Kd.S_alloc | apply Kd.S_drewN | apply Kd.S_drew)); exact HO0.out)⟩, ⟨(by repeat (first | (with_reducible first | exact HB.out | apply below_alloc | apply pw_below_drewN | apply below_drew1) | exact HB.out))⟩⟩
  case round =>
    clear H' HB HO0
    obtain ⟨x0, x1_1, x5_1, rfl, rfl, HLN, HA, HK1, HO, HB⟩ := hrel
    cases gk with
    | zero => exact absurd HA.out (by simp [laws_markIntSS.l0])
    | succ k1 =>
      have H := HA.out
      clear HA
      simp only [laws_markIntSS.l0] at H
      by_cases c3 : x5_1 < (x0.length : Int)
      · rw [if_pos c3] at H
        by_cases c4 : 0 ≤ x5_1
        · rw [if_pos c4] at H
          replace H := Option.bind_eq_some_iff.mp H
          obtain ⟨⟨t1, t2⟩, A50, H⟩ := H
          replace H : laws_markIntSS.l0 k1 (x0.set x5_1.toNat t2) t1 (wrap64 (x5_1 + 1)) = some (r1, r2) := H
          have H' := Aside0.mk H
          have A5 := Aside0.mk A50
          clear H A50
          have c3l : x5_1 < (l0.length : Int) := by rw [← HLN.out]; exact c3
          have c3b0 : decide (x5_1 < (l0.length : Int)) = true := decide_eq_true c3l
          have c4b0 : decide (0 ≤ x5_1) = true := decide_eq_true c4
          have hpos : 0 < x0.length := by omega
          obtain ⟨g, co, eo, gb, gl, cl, HG⟩ := Kd.S_form HO.out hpos
          injection eo with ea_ en_ ec_
          subst ea_
          subst ec_
          clear en_ HG gl gb
          obtain ⟨oki, ce, hcl, hM, hcc, hfr, hoki, hH⟩ := Kd.S_elem HO.out [] x5_1 c4 c3l
          obtain ⟨ve, rfl, ge⟩ := hM
          have hx := hcc 0 _ rfl
          (try simp only [show ((Kd.slice 3 (Kd.int .i64))).sz = 1 from rfl, Nat.mul_one, Nat.add_zero] at hx)
          clear hcl hcc hfr hoki
          have ge2 : Kd.R (Kd.int .i64) 3 _ w0.heap.size oki ve (rd_L1 x0 x5_1) := ge
          clear ge
          obtain ⟨Ae, cee, ee⟩ := Kd.R_slice ge2
          subst ee
          have GE := Aside0.mk ge2
          have HH := Aside0.mk hH
          have p164 := eq_true c4
          have q164 := eq_true c3l
          clear ge2 hH c3 c4 c3l
          go_wp2_with (first | ((with_reducible refine gate_callee (f := 19) rfl ?_); refine goesL_ (some 17) rfl rfl Try.func19 (by kernel_rfl) rfl #[.slice Ae (rd_L1 x0 x5_1).length cee, .int .i64 x1_1] rfl (by (try simp only [List.map_toArray, List.map_cons, List.map_nil]); first | done | rfl) ?_; (with_reducible refine (laws_markIntS.calls k1 (fun k_ => some k_ = (.slice Ae (rd_L1 x0 x5_1).length cee : Value).ownBlock) _ (rd_L1 x0 x5_1) x1_1 t1 t2 w0 _ ?s1 ?s2 A5.out).mono ?_); (case s1 => exact (by repeat (first | (with_reducible first | exact HB.out | apply below_alloc | apply pw_below_drewN | apply below_drew1) | exact HB.out))); (case s2 => exact Kd.R_tight rfl (by (with_reducible repeat (first | apply Kd.R_alloc | apply Kd.R_drewN | apply Kd.R_drew)); exact GE.out)); rintro e w2 ⟨rfl, hy, hb, hkp⟩; refine ⟨_, rfl, ?_⟩; have n0_ := Aside0.mk (Kd.H_kept (by (with_reducible repeat (first | apply Kd.H_alloc | apply Kd.H_drewN | apply Kd.H_drew)); exact HH.out) hkp (fun k_ _ hn_ hs_ => hn_ (GE.out.1 k_ hs_.symm))); have n1_ := Aside0.mk (Kd.H_back n0_.out (okp := oki) (x' := t2) ⟨_, rfl, Kd.R_mono (Kd.R_tight rfl hy) (fun k_ hk_ => GE.out.1 k_ hk_.symm)⟩ (fun _ hk_ => hk_)); have n2_ := Aside0.mk hb; clear HB HO hy hb hkp n0_; have HO := n1_; have HB := n2_; clear n1_ n2_))
          go_roundg k1
          case measure => have := HK1.out; omega
          case rel => exact ⟨x0.set x5_1.toNat t2, t1, wrap64 (x5_1 + 1), (by first | rfl | (simp; done) | (simp [*]; done)), (by first | rfl | (simp; done) | (simp [*]; done)), ⟨by rw [List.length_set]; exact HLN.out⟩, H', ⟨by have := HK1.out; omega⟩, ⟨(by (with_reducible repeat (first | apply Kd.S_alloc | apply Kd.S_drewN | apply Kd.S_drew)); exact HO.out)⟩, ⟨(by repeat (first | (with_reducible first | exact HB.out | apply below_alloc | apply pw_below_drewN | apply below_drew1) | exact HB.out))⟩⟩
        · rw [if_neg c4] at H
          exact absurd H (by simp)
      · rw [if_neg c3] at H
        have c3b0 : decide (x5_1 < (l0.length : Int)) = false := decide_eq_false (by rw [← HLN.out]; exact c3)
        clear c3
        simp only [Option.some.injEq, Prod.mk.injEq] at H
        obtain ⟨rfl, rfl⟩ := H
        go_wp2
        go_ret
        exact ⟨by first | rfl | (simp; done) | (simp [*]; done), (by (with_reducible repeat (first | apply Kd.S_alloc | apply Kd.S_drewN | apply Kd.S_drew)); exact HO.out), (by repeat (first | (with_reducible first | exact HB.out | apply below_alloc | apply pw_below_drewN | apply below_drew1) | exact HB.out))⟩
/-! ### the law: its straight walk -/
def laws_FnExactBlocksOf.Facts (k : Nat) (l0 : List Int) (L M : List (List Int)) (b : Bool) (m mx : Int) (X : List Int) : Prop :=
  laws_toIntS.f k l0 = some l0 ∧ spec_BlocksOf.f k l0 = some (L, b) ∧ impl_BlocksOf.f k l0 = some (L, b) ∧ laws_eqIntSS.f k L L = some true ∧ laws_eqIntS.f k l0 l0 = some true ∧ laws_markIntS.f k l0 1 = some (mx, X) ∧ ¬ mx < 0 ∧ laws_markIntSS.f k L 1 = some (m, M) ∧ M.length = L.length ∧ laws_heldIntSS.f k M 1 = some m ∧ ¬ m < 0
set_option maxHeartbeats 8000000 in
set_option maxRecDepth 100000 in
theorem laws_FnExactBlocksOf.straight (k : Nat) (A0 : Option Addr) (c0 : Nat) (l0 : List Int) (L M : List (List Int)) (b : Bool) (m mx : Int) (X : List Int) (w : World) (hr0 : Kd.C (Kd.int .i64) w A0 l0.length l0) (hc0 : l0.length ≤ c0) (hlong : ¬ (l0.length : Int) > 1048576) (hf : laws_FnExactBlocksOf.Facts k l0 L M b m mx X) :
    Calls Try.prog 14 #[.slice A0 l0.length c0] w fun e w' => e = .returned (.bool true) ∧ Below w.heap.size w w' := by
  obtain ⟨ht, hs, hi, he, hxe, hxm, hmx0, hm, hml, hh, hm0⟩ := hf
  have HR0 := Aside0.mk hr0
  have HC0 := Aside0.mk hc0
  have HT := Aside0.mk ht
  have HS := Aside0.mk hs
  have HI := Aside0.mk hi
  have HE := Aside0.mk he
  have HXE := Aside0.mk hxe
  have HXM := Aside0.mk hxm
  have HM := Aside0.mk hm
  have HML := Aside0.mk hml
  have HH := Aside0.mk hh
  have c0b : decide (m < 0) = false := decide_eq_false hm0
  have c1b : decide (mx < 0) = false := decide_eq_false hmx0
  have c2b0 : decide (1048576 < (l0.length : Int)) = false := decide_eq_false hlong
  have c2b1 : decide (1048576 < l0.length) = false := decide_eq_false (by omega)
  clear hr0 hc0 ht hs hi he hxe hxm hmx0 hm hml hh hm0 hlong
  have HB := Aside0.mk (Below.refl w.heap.size w)
  go_enter Try.func14, Try.ntmps14
  go_wp2_with (first | ((with_reducible refine gate_callee (f := 16) rfl ?_); refine goesL_ (some 18) rfl rfl Try.func16 (by kernel_rfl) rfl #[.slice A0 l0.length c0] rfl (by (try simp only [List.map_toArray, List.map_cons, List.map_nil]); first | done | rfl) ?_; (with_reducible refine (laws_toIntS.calls k _ _ l0 l0 _ ?side1 ?side2 HT.out).mono ?_); (case side1 => exact Kd.C_below HR0.out (by repeat (first | (with_reducible first | exact HB.out | apply below_alloc | apply pw_below_drewN | apply below_drew1) | exact HB.out))); (case side2 => exact HC0.out); rintro e wt ⟨vt, rfl, ho, hb⟩; refine ⟨_, rfl, ?_⟩; have HOa := Aside0.mk ho; have n1_ := Aside0.mk (below_step (by repeat (first | (with_reducible first | exact HB.out | apply below_alloc | apply pw_below_drewN | apply below_drew1) | exact HB.out)) hb); clear HB ho hb; have HB := n1_; clear n1_; obtain ⟨Aa, ca, ea⟩ := Kd.R_slice HOa.out; subst ea) | ((with_reducible refine gate_callee (f := 24) rfl ?_); refine goesL_ (some 19) rfl rfl Try.func24 (by kernel_rfl) rfl #[.slice Aa l0.length ca] rfl (by (try simp only [List.map_toArray, List.map_cons, List.map_nil]); first | done | rfl) ?_; (with_reducible refine (spec_BlocksOf.calls k _ _ l0 L b _ ?side1 ?side2 HS.out).mono ?_); (case side1 => repeat (first | exact (Kd.R_reads' HOa.out).2.2 | (with_reducible refine Kd.C_alloc ?_ _) | (with_reducible refine Kd.C_drewN ?_ _) | (with_reducible refine Kd.C_drew ?_))); (case side2 => exact (Kd.R_reads' HOa.out).2.1); rintro e wr ⟨vr, rfl, ho, hb⟩; refine ⟨_, rfl, ?_⟩; replace ho := Kd.S_mono (ok' := fun _ => True) ho (fun _ _ => trivial); have F1 := Aside0.mk (Kd.S_lower ho (below_size (by repeat (first | (with_reducible first | exact HB.out | apply below_alloc | apply pw_below_drewN | apply below_drew1) | exact HB.out)))); have n1_ := Aside0.mk (below_step (by repeat (first | (with_reducible first | exact HB.out | apply below_alloc | apply pw_below_drewN | apply below_drew1) | exact HB.out)) hb); clear HB HOa ho hb; have HB := n1_; clear n1_; obtain ⟨Ab, cb, eb⟩ := Kd.S_slice F1.out; subst eb) | ((with_reducible refine gate_callee (f := 16) rfl ?_); refine goesL_ (some 23) rfl rfl Try.func16 (by kernel_rfl) rfl #[.slice A0 l0.length c0] rfl (by (try simp only [List.map_toArray, List.map_cons, List.map_nil]); first | done | rfl) ?_; (with_reducible refine (laws_toIntS.calls k _ _ l0 l0 _ ?side1 ?side2 HT.out).mono ?_); (case side1 => exact Kd.C_below HR0.out (by repeat (first | (with_reducible first | exact HB.out | apply below_alloc | apply pw_below_drewN | apply below_drew1) | exact HB.out))); (case side2 => exact HC0.out); rintro e wt ⟨vt, rfl, ho, hb⟩; refine ⟨_, rfl, ?_⟩; obtain ⟨ww, F1w, HBw, HX, X0⟩ : ∃ ww : World, Aside0 (Kd.S (Kd.slice 3 (Kd.int .i64)) 22 ww w.heap.size (fun _ => True) (.slice Ab L.length cb) L) ∧ Aside0 (Below w.heap.size w ww) ∧ Aside0 (Below ww.heap.size ww wt) ∧ Aside0 (Kd.R (Kd.int .i64) 3 wt ww.heap.size (fun _ => True) vt l0) := ⟨_, ⟨(by (with_reducible repeat (first | apply Kd.S_alloc | apply Kd.S_drewN | apply Kd.S_drew)); exact F1.out)⟩, ⟨(by repeat (first | (with_reducible first | exact HB.out | apply below_alloc | apply pw_below_drewN | apply below_drew1) | exact HB.out))⟩, ⟨hb⟩, ⟨ho⟩⟩; clear F1 HB ho hb; have F1 := Aside0.mk (Kd.S_below F1w.out HX.out); obtain ⟨Ac, cc, ec⟩ := Kd.R_slice X0.out; subst ec) | ((with_reducible refine gate_callee (f := 23) rfl ?_); refine goesL_ (some 26) rfl rfl Try.func23 (by kernel_rfl) rfl #[.slice Ac l0.length cc] rfl (by (try simp only [List.map_toArray, List.map_cons, List.map_nil]); first | done | rfl) ?_; (with_reducible refine (impl_BlocksOf.calls k _ _ l0 L b _ ?side1 ?side2 HI.out).mono ?_); (case side1 => repeat (first | exact (Kd.R_reads' X0.out).2.2 | (with_reducible refine Kd.C_alloc ?_ _) | (with_reducible refine Kd.C_drewN ?_ _) | (with_reducible refine Kd.C_drew ?_))); (case side2 => exact (Kd.R_reads' X0.out).2.1); rintro e wr ⟨vr, rfl, ho, hb⟩; refine ⟨_, rfl, ?_⟩; replace ho := Kd.S_mono (ok' := fun _ => True) ho (fun _ _ => trivial); have n0_ := Aside0.mk (Kd.R_below (by (with_reducible repeat (first | apply Kd.R_alloc | apply Kd.R_drewN | apply Kd.R_drew)); exact X0.out) hb); have n1_ := Aside0.mk (Kd.S_lower (Kd.S_new' ho (Kd.R_lt (by (with_reducible repeat (first | apply Kd.R_alloc | apply Kd.R_drewN | apply Kd.R_drew)); exact X0.out))) (below_size (by repeat (first | (with_reducible first | exact HX.out | apply below_alloc | apply pw_below_drewN | apply below_drew1) | exact HX.out)))); have n2_ := Aside0.mk (below_step (by repeat (first | (with_reducible first | exact HX.out | apply below_alloc | apply pw_below_drewN | apply below_drew1) | exact HX.out)) hb); clear X0 HX F1 ho hb; have X0 := n0_; have G0 := n1_; have HX := n2_; clear n0_ n1_ n2_; have F1 := Aside0.mk (Kd.S_below F1w.out HX.out); obtain ⟨Ag, cg, eg⟩ := Kd.S_slice G0.out; subst eg) | ((with_reducible refine gate_callee (f := 50) rfl ?_); refine goesL_ (some 31) rfl rfl Try.func50 (by kernel_rfl) rfl #[.slice Ag L.length cg, .slice Ab L.length cb] rfl (by (try simp only [List.map_toArray, List.map_cons, List.map_nil]); first | done | rfl) ?_; (with_reducible refine (laws_eqIntSS.calls k _ _ L _ _ L true _ ?side1 ?side2 ?side3 ?side4 HE.out).mono ?_); (case side1 => repeat (first | exact (Kd.S_reads' G0.out).2.2 | (with_reducible refine Kd.C_alloc ?_ _) | (with_reducible refine Kd.C_drewN ?_ _) | (with_reducible refine Kd.C_drew ?_))); (case side2 => exact (Kd.S_reads' G0.out).2.1); (case side3 => repeat (first | exact (Kd.S_reads' F1.out).2.2 | (with_reducible refine Kd.C_alloc ?_ _) | (with_reducible refine Kd.C_drewN ?_ _) | (with_reducible refine Kd.C_drew ?_))); (case side4 => exact (Kd.S_reads' F1.out).2.1); rintro e w' ⟨rfl, ⟨nd, rfl⟩⟩; refine ⟨_, rfl, ?_⟩) | ((with_reducible refine gate_callee (f := 16) rfl ?_); refine goesL_ (some 40) rfl rfl Try.func16 (by kernel_rfl) rfl #[.slice A0 l0.length c0] rfl (by (try simp only [List.map_toArray, List.map_cons, List.map_nil]); first | done | rfl) ?_; (with_reducible refine (laws_toIntS.calls k _ _ l0 l0 _ ?side1 ?side2 HT.out).mono ?_); (case side1 => exact Kd.C_below HR0.out (below_step HBw.out (by repeat (first | (with_reducible first | exact HX.out | apply below_alloc | apply pw_below_drewN | apply below_drew1) | exact HX.out)))); (case side2 => exact HC0.out); rintro e wt ⟨vt, rfl, ho, hb⟩; refine ⟨_, rfl, ?_⟩; have n0_ := Aside0.mk (Kd.R_below (by (with_reducible repeat (first | apply Kd.R_alloc | apply Kd.R_drewN | apply Kd.R_drew)); exact X0.out) hb); have n1_ := Aside0.mk (Kd.S_below (by (with_reducible repeat (first | apply Kd.S_alloc | apply Kd.S_drewN | apply Kd.S_drew)); exact G0.out) hb); have n2_ := Aside0.mk (below_step (by repeat (first | (with_reducible first | exact HX.out | apply below_alloc | apply pw_below_drewN | apply below_drew1) | exact HX.out)) hb); have HOt := Aside0.mk ho; clear X0 G0 HX F1 ho hb; have X0 := n0_; have G0 := n1_; have HX := n2_; clear n0_ n1_ n2_; have F1 := Aside0.mk (Kd.S_below F1w.out HX.out); obtain ⟨At, ct, et⟩ := Kd.R_slice HOt.out; subst et) | ((with_reducible refine gate_callee (f := 18) rfl ?_); refine goesL_ (some 41) rfl rfl Try.func18 (by kernel_rfl) rfl #[.slice Ac l0.length cc, .slice At l0.length ct] rfl (by (try simp only [List.map_toArray, List.map_cons, List.map_nil]); first | done | rfl) ?_; (with_reducible refine (laws_eqIntS.calls k _ _ l0 _ _ l0 true _ ?side1 ?side2 ?side3 ?side4 HXE.out).mono ?_); (case side1 => repeat (first | exact (Kd.R_reads' X0.out).2.2 | (with_reducible refine Kd.C_alloc ?_ _) | (with_reducible refine Kd.C_drewN ?_ _) | (with_reducible refine Kd.C_drew ?_))); (case side2 => exact (Kd.R_reads' X0.out).2.1); (case side3 => repeat (first | exact (Kd.R_reads' HOt.out).2.2 | (with_reducible refine Kd.C_alloc ?_ _) | (with_reducible refine Kd.C_drewN ?_ _) | (with_reducible refine Kd.C_drew ?_))); (case side4 => exact (Kd.R_reads' HOt.out).2.1); rintro e w' ⟨rfl, ⟨nd, rfl⟩⟩; refine ⟨_, rfl, ?_⟩) | ((with_reducible refine gate_callee (f := 19) rfl ?_); refine goesL_ (some 45) rfl rfl Try.func19 (by kernel_rfl) rfl #[.slice Ac l0.length cc, .int .i64 1] rfl (by (try simp only [List.map_toArray, List.map_cons, List.map_nil]); first | done | rfl) ?_; (with_reducible refine (laws_markIntS.calls k (fun k_ => some k_ = (.slice Ac l0.length cc : Value).ownBlock) _ l0 1 mx X ww _ ?s1 ?s2 HXM.out).mono ?_); (case s1 => exact (by repeat (first | (with_reducible first | exact HX.out | apply below_alloc | apply pw_below_drewN | apply below_drew1) | exact HX.out))); (case s2 => exact Kd.R_tight rfl (by (with_reducible repeat (first | apply Kd.R_alloc | apply Kd.R_drewN | apply Kd.R_drew)); exact X0.out)); rintro e w8 ⟨rfl, hy, hb, hkp⟩; refine ⟨_, rfl, ?_⟩; have n1_ := Aside0.mk (Kd.S_kept (ok := fun k_ => True ∧ some k_ ≠ (.slice Ac l0.length cc : Value).ownBlock) (by (with_reducible repeat (first | apply Kd.S_alloc | apply Kd.S_drewN | apply Kd.S_drew)); exact G0.out) hkp (fun k_ hk_ hs_ => hk_.2 hs_)); clear X0 G0 HX F1 HOt hy hkp; have G0 := n1_; have HX := Aside0.mk hb; clear n1_ hb; have F1 := Aside0.mk (Kd.S_below F1w.out HX.out)) | (go_at_call 50; (with_reducible refine (laws_eqIntSS.calls k _ _ L _ _ L true _ ?side1 ?side2 ?side3 ?side4 HE.out).mono ?_); (case side1 => repeat (first | exact (Kd.S_reads' G0.out).2.2 | (with_reducible refine Kd.C_alloc ?_ _) | (with_reducible refine Kd.C_drewN ?_ _) | (with_reducible refine Kd.C_drew ?_))); (case side2 => exact (Kd.S_reads' G0.out).2.1); (case side3 => repeat (first | exact (Kd.S_reads' F1.out).2.2 | (with_reducible refine Kd.C_alloc ?_ _) | (with_reducible refine Kd.C_drewN ?_ _) | (with_reducible refine Kd.C_drew ?_))); (case side4 => exact (Kd.S_reads' F1.out).2.1); rintro e w' ⟨rfl, ⟨nd, rfl⟩⟩) | ((with_reducible refine gate_callee (f := 51) rfl ?_); refine goesL_ (some 61) rfl rfl Try.func51 (by kernel_rfl) rfl #[.slice Ag L.length cg, .int .i64 1] rfl (by (try simp only [List.map_toArray, List.map_cons, List.map_nil]); first | done | rfl) ?_; (with_reducible refine (laws_markIntSS.calls k (fun _ => True) _ L 1 m M ww _ ?s1 ?s2 HM.out).mono ?_); (case s1 => exact (by repeat (first | (with_reducible first | exact HX.out | apply below_alloc | apply pw_below_drewN | apply below_drew1) | exact HX.out))); (case s2 => exact Kd.S_mono (ok' := fun _ => True) (by (with_reducible repeat (first | apply Kd.S_alloc | apply Kd.S_drewN | apply Kd.S_drew)); exact G0.out) (fun _ _ => trivial)); rintro e w3 ⟨rfl, ho, hb⟩; refine ⟨_, rfl, ?_⟩; clear G0 HX F1; have G0 := Aside0.mk ho; have HX := Aside0.mk hb; clear ho hb; have F1 := Aside0.mk (Kd.S_below F1w.out HX.out)) | ((with_reducible refine gate_callee (f := 52) rfl ?_); refine goesL_ (some 64) rfl rfl Try.func52 (by kernel_rfl) rfl #[.slice Ag L.length cg, .int .i64 1] rfl (by (try simp only [List.map_toArray, List.map_cons, List.map_nil]); first | done | rfl) ?_; refine calls_of_args (args' := #[.slice Ag M.length cg, .int .i64 1]) (by rw [HML.out]) ?_; (with_reducible refine (laws_heldIntSS.calls k _ _ M 1 m _ ?side1 ?side2 HH.out).mono ?_); (case side1 => repeat (first | exact (Kd.S_reads' G0.out).2.2 | (with_reducible refine Kd.C_alloc ?_ _) | (with_reducible refine Kd.C_drewN ?_ _) | (with_reducible refine Kd.C_drew ?_))); (case side2 => (rw [HML.out]; exact (Kd.S_reads' G0.out).2.1)); rintro e w' ⟨rfl, ⟨nd, rfl⟩⟩; refine ⟨_, rfl, ?_⟩) | ((with_reducible refine gate_callee (f := 16) rfl ?_); refine goesL_ (some 72) rfl rfl Try.func16 (by kernel_rfl) rfl #[.slice A0 l0.length c0] rfl (by (try simp only [List.map_toArray, List.map_cons, List.map_nil]); first | done | rfl) ?_; (with_reducible refine (laws_toIntS.calls k _ _ l0 l0 _ ?side1 ?side2 HT.out).mono ?_); (case side1 => exact Kd.C_below HR0.out (below_step HBw.out (by repeat (first | (with_reducible first | exact HX.out | apply below_alloc | apply pw_below_drewN | apply below_drew1) | exact HX.out)))); (case side2 => exact HC0.out); rintro e wt ⟨vt, rfl, ho, hb⟩; refine ⟨_, rfl, ?_⟩; have n1_ := Aside0.mk (Kd.S_below (by (with_reducible repeat (first | apply Kd.S_alloc | apply Kd.S_drewN | apply Kd.S_drew)); exact G0.out) hb); have n2_ := Aside0.mk (below_step (by repeat (first | (with_reducible first | exact HX.out | apply below_alloc | apply pw_below_drewN | apply below_drew1) | exact HX.out)) hb); have HOt := Aside0.mk ho; clear G0 HX F1 ho hb; have G0 := n1_; have HX := n2_; clear n1_ n2_; have F1 := Aside0.mk (Kd.S_below F1w.out HX.out); obtain ⟨Au, cu, eu⟩ := Kd.R_slice HOt.out; subst eu) | ((with_reducible refine gate_callee (f := 23) rfl ?_); refine goesL_ (some 73) rfl rfl Try.func23 (by kernel_rfl) rfl #[.slice Au l0.length cu] rfl (by (try simp only [List.map_toArray, List.map_cons, List.map_nil]); first | done | rfl) ?_; (with_reducible refine (impl_BlocksOf.calls k _ _ l0 L b _ ?side1 ?side2 HI.out).mono ?_); (case side1 => repeat (first | exact (Kd.R_reads' HOt.out).2.2 | (with_reducible refine Kd.C_alloc ?_ _) | (with_reducible refine Kd.C_drewN ?_ _) | (with_reducible refine Kd.C_drew ?_))); (case side2 => exact (Kd.R_reads' HOt.out).2.1); rintro e wr ⟨vr, rfl, ho, hb⟩; refine ⟨_, rfl, ?_⟩; replace ho := Kd.S_mono (ok' := fun _ => True) ho (fun _ _ => trivial); have n1_ := Aside0.mk (Kd.S_below (by (with_reducible repeat (first | apply Kd.S_alloc | apply Kd.S_drewN | apply Kd.S_drew)); exact G0.out) hb); have n2_ := Aside0.mk (below_step (by repeat (first | (with_reducible first | exact HX.out | apply below_alloc | apply pw_below_drewN | apply below_drew1) | exact HX.out)) hb); have HO3 := Aside0.mk ho; clear G0 HX F1 HOt ho hb; have G0 := n1_; have HX := n2_; clear n1_ n2_; have F1 := Aside0.mk (Kd.S_below F1w.out HX.out); obtain ⟨Ah, ch, eh⟩ := Kd.S_slice HO3.out; subst eh) | ((with_reducible refine gate_callee (f := 50) rfl ?_); refine goesL_ (some 78) rfl rfl Try.func50 (by kernel_rfl) rfl #[.slice Ah L.length ch, .slice Ab L.length cb] rfl (by (try simp only [List.map_toArray, List.map_cons, List.map_nil]); first | done | rfl) ?_; (with_reducible refine (laws_eqIntSS.calls k _ _ L _ _ L true _ ?side1 ?side2 ?side3 ?side4 HE.out).mono ?_); (case side1 => repeat (first | exact (Kd.S_reads' HO3.out).2.2 | (with_reducible refine Kd.C_alloc ?_ _) | (with_reducible refine Kd.C_drewN ?_ _) | (with_reducible refine Kd.C_drew ?_))); (case side2 => exact (Kd.S_reads' HO3.out).2.1); (case side3 => repeat (first | exact (Kd.S_reads' F1.out).2.2 | (with_reducible refine Kd.C_alloc ?_ _) | (with_reducible refine Kd.C_drewN ?_ _) | (with_reducible refine Kd.C_drew ?_))); (case side4 => exact (Kd.S_reads' F1.out).2.1); rintro e w' ⟨rfl, ⟨nd, rfl⟩⟩; refine ⟨_, rfl, ?_⟩) | ((with_reducible refine gate_callee (f := 52) rfl ?_); refine goesL_ (some 87) rfl rfl Try.func52 (by kernel_rfl) rfl #[.slice Ag L.length cg, .int .i64 1] rfl (by (try simp only [List.map_toArray, List.map_cons, List.map_nil]); first | done | rfl) ?_; refine calls_of_args (args' := #[.slice Ag M.length cg, .int .i64 1]) (by rw [HML.out]) ?_; (with_reducible refine (laws_heldIntSS.calls k _ _ M 1 m _ ?side1 ?side2 HH.out).mono ?_); (case side1 => repeat (first | exact (Kd.S_reads' G0.out).2.2 | (with_reducible refine Kd.C_alloc ?_ _) | (with_reducible refine Kd.C_drewN ?_ _) | (with_reducible refine Kd.C_drew ?_))); (case side2 => (rw [HML.out]; exact (Kd.S_reads' G0.out).2.1)); rintro e w' ⟨rfl, ⟨nd, rfl⟩⟩; refine ⟨_, rfl, ?_⟩))
  go_ret
  exact ⟨by first | rfl | (simp; done) | (simp [*]; done), below_step HBw.out (by repeat (first | (with_reducible first | exact HX.out | apply below_alloc | apply pw_below_drewN | apply below_drew1) | exact HX.out))⟩
set_option maxHeartbeats 8000000 in
theorem laws_FnExactBlocksOf.long (A0 : Option Addr) (c0 : Nat) (l0 : List Int) (w : World) (c2 : (l0.length : Int) > 1048576) :
    Calls Try.prog 14 #[.slice A0 l0.length c0] w fun e w' => e = .returned (.bool true) ∧ Below w.heap.size w w' := by
  have HB := Aside0.mk (Below.refl w.heap.size w)
  have c2b0 : decide (1048576 < (l0.length : Int)) = true := decide_eq_true c2
  have c2b1 : decide (1048576 < l0.length) = true := decide_eq_true (by omega)
  clear c2
  go_enter Try.func14, Try.ntmps14
  go_wp2
  go_ret
  exact ⟨by first | rfl | (simp; done) | (simp [*]; done), (by repeat (first | (with_reducible first | exact HB.out | apply below_alloc | apply pw_below_drewN | apply below_drew1) | exact HB.out))⟩
theorem laws_FnExactBlocksOf.walk (P : ∀ l0 : List Int, (∀ x ∈ l0, (Lit.int .i64 x).wf = true) → l0.length ≤ 1048576 → ∃ k L M b m mx X, laws_FnExactBlocksOf.Facts k l0 L M b m mx X) (a0 : Option Addr) (len0 cap0 : Nat) (z0 : List Int) (w : World) (w0 : (a0 = none ∧ len0 = 0 ∧ cap0 = 0 ∧ z0 = []) ∨ ∃ x, a0 = some x ∧ len0 ≤ cap0 ∧ cap0 ≤ maxLen ∧ z0.length = cap0 ∧ (∀ i, i < z0.length → w.cell? (x.add i) = some (.int .i64 (z0.getD i 0))) ∧ ∀ n ∈ z0, (Lit.int .i64 n).wf = true) :
    Calls Try.prog 14 #[.slice a0 len0 cap0] w fun e w' => e = .returned (.bool true) ∧ Below w.heap.size w w' := by
  obtain ⟨l0, rfl, hr0, hm0, hw0, hc0⟩ := ReadsInt.ofRowC w0
  by_cases c2 : (l0.length : Int) > 1048576
  · exact laws_FnExactBlocksOf.long a0 cap0 l0 w c2
  · obtain ⟨k, L, M, b, m, mx, X, hf⟩ := P l0 hw0 (by omega)
    exact laws_FnExactBlocksOf.straight k a0 cap0 l0 L M b m mx X w (Kd.C_of_reads (d := (0 : Int)) (h1 := fun _ => rfl) hr0) hc0 c2 hf

end Go.Proofs.Ytlondmhiccikpaa.HFnExactBlocksOf
