/- Written by this session's program boxn.py: impl.NecklacesOf, by hand. -/
import Derived.Test.YtoledgkfohkfkaaHFnExactNecklacesOfx0
import Derived.Test.YtoledgkfohkfkaaHFnExactNecklacesOfx1
import Derived.Test.YtoledgkfohkfkaaHFnExactNecklacesOfx2
import Derived.Test.YtoledgkfohkfkaaHFnExactNecklacesOfx3
import Derived.Test.YtoledgkfohkfkaaHFnExactNecklacesOfx4
namespace Go.Proofs.Ytoledgkfohkfkaa.HFnExactNecklacesOf
open Go.RowKit Go.Proofs.YtoledgkfohkfkaaW.PrintWords Go.Proofs.YtoledgkfohkfkaaW.PrintLast Go.Proofs.YtoledgkfohkfkaaW.PrintMore
attribute [local go_sem] max2_int min2_int max_two min_two max_three min_three max_four min_four   -- for this text's walks alone
set_option linter.unusedVariables false
set_option linter.unusedSimpArgs false

/-! ### impl_NecklacesOf: function 26, by hand -/
def impl_NecklacesOf.l0 : Nat → Int → List (List Int) → Int → Option (List (List Int))
  | 0, _, _, _ => none
  | k + 1, a0, x, i => if i < (x.length : Int) then (if 0 ≤ i then ((impl_repeated.f k (rd_L1 x i) a0).bind fun t => impl_NecklacesOf.l0 k a0 (x.set i.toNat t) (wrap64 (i + 1))) else none) else some x
def impl_NecklacesOf.f (k : Nat) (a0 a1 : Int) : Option (List (List Int) × Bool) := (impl_isOver.f a0 a1).bind fun t => (if t = true then ((impl_countNecklaces.f k a0 a1).bind fun c => (if c > 1100 then some ([], false) else ((impl_lyndonWords.f k a0 a1 1100).bind fun bt => ((impl_NecklacesOf.l0 k a0 bt.1 0).bind fun z => some (z, true))))) else some ([], false))
set_option maxHeartbeats 8000000 in
set_option maxRecDepth 100000 in
theorem impl_NecklacesOf.calls (k : Nat) (a0 a1 : Int) (r1 : List (List Int)) (r2 : Bool) (w : World) (h : impl_NecklacesOf.f k a0 a1 = some (r1, r2)) :
    Calls Try.prog 26 #[.int .i64 a0, .int .i64 a1] w fun e w' => ∃ v0_ : Value, e = .returned (.tuple #[v0_, .bool r2]) ∧ Kd.S (Kd.slice 3 (Kd.int .i64)) 24 w' w.heap.size (fun _ => True) v0_ r1 ∧ Below w.heap.size w w' := by
  have hmf : ∀ (fn : Fn) (first cap : Array Value) (w : World), (Instr.makeFunc fn first cap).run Try.prog w = .ok (.func fn first cap) w := fun _ _ _ _ => rfl
  have hM2 : (w.alloc (.cells #[.int .i64 a0] 3)).cell? ⟨w.heap.size, 0, none⟩ = some (.int .i64 a0) := by
    rw [World.cell?_alloc_at _ _ _ _ rfl]; rfl
  have HB := Aside0.mk (below_alloc (Below.refl w.heap.size w) (.cells #[.int .i64 a0] 3))
  have HM2 := Aside0.mk hM2
  unfold impl_NecklacesOf.f at h
  replace h := Option.bind_eq_some_iff.mp h
  obtain ⟨t0, A0_, h⟩ := h
  have A0 := Aside0.mk A0_
  clear A0_
  by_cases c0 : t0 = true
  · subst c0
    replace h : ((impl_countNecklaces.f k a0 a1).bind fun c => (if c > 1100 then some ([], false) else ((impl_lyndonWords.f k a0 a1 1100).bind fun bt => ((impl_NecklacesOf.l0 k a0 bt.1 0).bind fun z => some (z, true))))) = some (r1, r2) := by rw [if_pos rfl] at h; exact h
    replace h := Option.bind_eq_some_iff.mp h
    obtain ⟨cn, A1_, h⟩ := h
    have A1 := Aside0.mk A1_
    clear A1_
    by_cases c1 : cn > 1100
    · rw [if_pos c1] at h
      simp only [Option.some.injEq, Prod.mk.injEq] at h
      obtain ⟨rfl, rfl⟩ := h
      have c1b : decide (1100 < cn) = true := decide_eq_true c1
      clear c1
      go_enter Try.func26, Try.ntmps26
      go_wp2_with (first | ((with_reducible refine gate_callee (f := 55) rfl ?_); refine goesL_ (some 12) rfl rfl Try.func55 (by kernel_rfl) rfl #[.int .i64 a0, .int .i64 a1] rfl (by (try simp only [List.map_toArray, List.map_cons, List.map_nil]); first | done | rfl) ?_; (with_reducible refine (impl_isOver.calls a0 a1 true _ A0.out).mono ?_); rintro e w' ⟨rfl, ⟨nd, rfl⟩⟩; refine ⟨_, rfl, ?_⟩) | (go_at_call 60; (with_reducible refine (impl_countNecklaces.calls k a0 a1 cn _ A1.out).mono ?_); rintro e w' ⟨rfl, ⟨nd, rfl⟩⟩))
      go_ret2
      exact ⟨_, by first | rfl | (simp; done) | (simp [*]; done), Kd.S_nil _ _ _ _ _, (by repeat (first | (with_reducible first | exact HB.out | apply below_alloc | apply pw_below_drewN | apply below_drew1) | exact HB.out))⟩
    · rw [if_neg c1] at h
      replace h := Option.bind_eq_some_iff.mp h
      obtain ⟨⟨L, b⟩, A2_, h⟩ := h
      have A2 := Aside0.mk A2_
      clear A2_
      replace h := Option.bind_eq_some_iff.mp h
      obtain ⟨z, h3, h⟩ := h
      replace h : some (z, true) = some (r1, r2) := h
      simp only [Option.some.injEq, Prod.mk.injEq] at h
      obtain ⟨rfl, rfl⟩ := h
      replace h3 : impl_NecklacesOf.l0 k a0 L 0 = some z := h3
      have H' := Aside0.mk h3
      clear h3
      have c1b : decide (1100 < cn) = false := decide_eq_false c1
      clear c1
      go_enter Try.func26, Try.ntmps26
      go_wp2_with (first | ((with_reducible refine gate_callee (f := 55) rfl ?_); refine goesL_ (some 12) rfl rfl Try.func55 (by kernel_rfl) rfl #[.int .i64 a0, .int .i64 a1] rfl (by (try simp only [List.map_toArray, List.map_cons, List.map_nil]); first | done | rfl) ?_; (with_reducible refine (impl_isOver.calls a0 a1 true _ A0.out).mono ?_); rintro e w' ⟨rfl, ⟨nd, rfl⟩⟩; refine ⟨_, rfl, ?_⟩) | (go_at_call 60; (with_reducible refine (impl_countNecklaces.calls k a0 a1 cn _ A1.out).mono ?_); rintro e w' ⟨rfl, ⟨nd, rfl⟩⟩) | ((with_reducible refine gate_callee (f := 56) rfl ?_); refine goesL_ (some 24) rfl rfl Try.func56 (by kernel_rfl) rfl #[.int .i64 a0, .int .i64 a1, .int .i64 1100, (Value.func (Fn.func 61) #[] #[.pointer (some ⟨w.heap.size, 0, none⟩)])] rfl (by (try simp only [List.map_toArray, List.map_cons, List.map_nil]); first | done | rfl) ?_; (with_reducible refine (impl_lyndonWords.calls k a0 a1 1100 ⟨w.heap.size, 0, none⟩ L b _ ?side1 A2.out).mono ?_); (case side1 => exact HM2.out); rintro e w4 ⟨v4, rfl, ho, hb⟩; refine ⟨_, rfl, ?_⟩; obtain ⟨ww, HX, HO, HBw, HNw⟩ : ∃ ww : World, Aside0 (Below ww.heap.size ww w4) ∧ Aside0 (Kd.S (Kd.slice 3 (Kd.int .i64)) 24 w4 ww.heap.size (fun _ => True) v4 L) ∧ Aside0 (Below w.heap.size w ww) ∧ Aside0 (ww.cell? ⟨w.heap.size, 0, none⟩ = some (.int .i64 a0)) := ⟨_, ⟨hb⟩, ⟨ho⟩, ⟨(by repeat (first | (with_reducible first | exact HB.out | apply below_alloc | apply pw_below_drewN | apply below_drew1) | exact HB.out))⟩, ⟨HM2.out⟩⟩; clear HB ho hb hM2; obtain ⟨Aa, ca, ea⟩ := Kd.S_slice HO.out; subst ea))
      go_loopg [29] k (fun kq v29 w' => ∃ (x : List (List Int)) (i : Int), v29 = .int .i64 i ∧ Aside0 (x.length = L.length) ∧ Aside0 (impl_NecklacesOf.l0 kq a0 x i = some z) ∧ Aside0 (kq ≤ k) ∧ Aside0 (Kd.S (Kd.slice 3 (Kd.int .i64)) 24 w' ww.heap.size (fun _ => True) (.slice Aa L.length ca) x) ∧ Aside0 (Below ww.heap.size ww w'))
      case atStart => exact ⟨L, 0, (by first | rfl | (simp; done)), ⟨rfl⟩, H', ⟨Nat.le_refl _⟩, ⟨(by (with_reducible repeat (first | apply Kd.S_alloc | apply Kd.S_drewN | apply Kd.S_drew)); exact HO.out)⟩, ⟨(by repeat (first | (with_reducible first | exact HX.out | apply below_alloc | apply pw_below_drewN | apply below_drew1) | exact HX.out))⟩⟩
      case round =>
        clear H' HX HO
        obtain ⟨x, i, rfl, HLN, HA, HK1, HO, HX⟩ := hrel
        cases gk with
        | zero => exact absurd HA.out (by simp [impl_NecklacesOf.l0])
        | succ k1 =>
          have H := HA.out
          clear HA
          simp only [impl_NecklacesOf.l0] at H
          by_cases c6 : i < (x.length : Int)
          · rw [if_pos c6] at H
            by_cases c7 : 0 ≤ i
            · rw [if_pos c7] at H
              replace H := Option.bind_eq_some_iff.mp H
              obtain ⟨t, A8_, H⟩ := H
              have A8 := Aside0.mk A8_
              clear A8_
              have c6l : i < (L.length : Int) := by rw [← HLN.out]; exact c6
              have c6b0 : decide (i < (L.length : Int)) = true := decide_eq_true c6l
              have c7b0 : decide (0 ≤ i) = true := decide_eq_true c7
              have hpos : 0 < x.length := by omega
              have P1 := Aside0.mk c7
              have Q1 := Aside0.mk c6l
              obtain ⟨y, hy⟩ : ∃ y : List (List Int), y = x.set i.toNat t := ⟨_, rfl⟩
              replace H : impl_NecklacesOf.l0 k1 a0 y (wrap64 (i + 1)) = some z := by rw [hy]; exact H
              have Ny := Aside0.mk hy
              have H' := Aside0.mk H
              have HLY := Aside0.mk (show y.length = L.length by rw [hy, List.length_set]; exact HLN.out)
              clear hy H
              obtain ⟨go, co, eo, gb, gl, cl, HG⟩ := Kd.S_form HO.out hpos
              injection eo with ea_ en_ ec_
              subst ea_
              subst ec_
              have GB := Aside0.mk gb
              clear en_ HG gl gb
              obtain ⟨oki, ce, hcl, hM, hcc, hfr, hoki, hH⟩ := Kd.S_elem HO.out [] i c7 c6l
              obtain ⟨ve, rfl, ge⟩ := hM
              have hx := hcc 0 _ rfl
              (try simp only [show (Kd.slice 3 (Kd.int .i64)).sz = 1 from rfl, Nat.mul_one, Nat.add_zero] at hx)
              clear hcl hcc hfr hoki hH
              have ge2 : Kd.R (Kd.int .i64) 3 _ ww.heap.size oki ve (rd_L1 x i) := ge
              clear ge
              obtain ⟨Ae, cee, ee⟩ := Kd.R_slice ge2
              subst ee
              have GE := Aside0.mk ge2
              have hnn := pw_cell_below HX.out HNw.out
              have p1 := eq_true c7
              have q1 := eq_true c6l
              clear ge2 c6 c7 c6l hpos
              go_wp2_with (first | ((with_reducible refine gate_callee (f := 62) rfl ?_); refine goesL_ (some 38) rfl rfl Try.func62 (by kernel_rfl) rfl #[.slice Ae (rd_L1 x i).length cee, .int .i64 a0] rfl (by (try simp only [List.map_toArray, List.map_cons, List.map_nil]); first | done | rfl) ?_; (with_reducible refine (impl_repeated.calls k1 _ _ (rd_L1 x i) a0 t _ ?side1 ?side2 A8.out).mono ?_); (case side1 => repeat (first | exact (Kd.R_reads' GE.out).2.2 | (with_reducible refine Kd.C_alloc ?_ _) | (with_reducible refine Kd.C_drewN ?_ _) | (with_reducible refine Kd.C_drew ?_))); (case side2 => exact (Kd.R_reads' GE.out).2.1); rintro e w11 ⟨v203, rfl, ho0, hb⟩; refine ⟨_, rfl, ?_⟩; have n0_ := Aside0.mk (Kd.S_elder' (by (with_reducible repeat (first | apply Kd.S_alloc | apply Kd.S_drewN | apply Kd.S_drew)); exact HO.out) (Kd.R_base ho0) hb); have n1_ := Aside0.mk (Kd.R_lower ho0 (below_size (by repeat (first | (with_reducible first | exact HX.out | apply below_alloc | apply pw_below_drewN | apply below_drew1) | exact HX.out)))); have n2_ := Aside0.mk (below_step (by repeat (first | (with_reducible first | exact HX.out | apply below_alloc | apply pw_below_drewN | apply below_drew1) | exact HX.out)) hb); clear HO HX GE hnn hx; have HO := n0_; have HO204 := n1_; have HX := n2_; clear n0_ n1_ n2_ hb ho0; have n_ := Aside0.mk (Kd.S_mono (ok' := (fun k_ => some k_ ≠ (v203 : Value).ownBlock)) HO.out (fun k_ hk => hk.2)); clear HO; have HO := n_; clear n_; obtain ⟨Ao14, co14, eo14⟩ := Kd.R_slice HO204.out; subst eo14; have HX12 := Aside0.mk (show Kd.S (Kd.slice 3 (Kd.int .i64)) 24 w11 ww.heap.size (fun k_ => ((fun _ => True)) k_ ∧ ¬ ((fun k_ => some k_ = (.slice Ao14 t.length co14 : Value).ownBlock)) k_) (.slice (some ⟨go, 0, none⟩) L.length ca) x from (Kd.S_mono HO.out (fun k_ hk => ⟨trivial, fun e_ => hk e_⟩))); obtain ⟨oki12, ce12, hcl12, hM12, hcc12, hfr12, hoki12, hH12⟩ := Kd.S_elem HX12.out [] i P1.out Q1.out; obtain ⟨ve12_0, rfl, ge12_0⟩ := hM12; have HP12 := Kd.S_seg hH12 P1.out Q1.out (seg := [.slice Ao14 t.length co14]) (j := 0) (show 1 ≤ 1 from by decide) (x' := t) (Kd.M_row (Kd.R_mono (Kd.R_tight rfl (Kd.R_mono (ok' := fun k_ => ((fun _ => True)) k_ ∧ k_ ≠ go) (Kd.R_apart' (HO204.out) (Kd.S_typed HO.out) (by decide)) (fun k_ hk => ⟨trivial, fun e_ => (hk.2) (by rw [e_]; rfl)⟩))) (fun _ h_ => Or.inr (h_)))) (fun _ hk => hk) (fun k_ hk_ => ((Kd.R_mono (ok' := fun k_ => ((fun _ => True)) k_ ∧ k_ ≠ go) (Kd.R_apart' (HO204.out) (Kd.S_typed HO.out) (by decide)) (fun k_ hk => ⟨trivial, fun e_ => (hk.2) (by rw [e_]; rfl)⟩))).1 k_ hk_.symm); have hx12_0 := hcc12 0 _ rfl; (try simp only [show (Kd.slice 3 (Kd.int .i64)).sz = 1 from rfl, Nat.mul_one, Nat.add_zero] at hx12_0); have hf12_0 := hfr12 0; (try simp only [show (Kd.slice 3 (Kd.int .i64)).sz = 1 from rfl, Nat.mul_one, Nat.add_zero] at hf12_0); (try clear hcl12); (try clear hcc12); (try clear hfr12); (try clear hM12); (try clear hoki12); (try clear hH12); (try simp only [show (Kd.slice 3 (Kd.int .i64)).sz = 1 from rfl, Nat.mul_one, Nat.add_zero] at HP12)) | ((with_reducible refine gate_store (t := 24) (p := 39) rfl ?_); refine store_event (t := 24) (p := 39) (v := ?vo_w13) (w1 := (w11.setCell ⟨go, i.toNat, none⟩ (.slice Ao14 t.length co14))) ?hg ?ho ?hn ?hr ?_; (case ho => rfl); (case hg => rfl); (case hn => rfl); (case hr => first | (go_simp; done) | (go_simp; rfl)); intro w13 hw; have hp_ : Kd.S (Kd.slice 3 (Kd.int .i64)) 24 w13 ww.heap.size (fun _ => True) (.slice (some ⟨go, 0, none⟩) L.length ca) y := (by rw [hw, Ny.out]; exact HP12.1); clear HP12; have n0_ := Aside0.mk (hp_); have n1_ := Aside0.mk ((by rw [hw]; exact below_set (HX.out) GB.out : Below ww.heap.size ww w13)); clear HO; clear HX; clear HO204 HX12; have HO := n0_; have HX := n1_; clear n0_ n1_; clear hw hp_))
              go_roundg k1
              case measure => have := HK1.out; omega
              case rel => exact ⟨y, wrap64 (i + 1), (by first | rfl | (simp; done) | (simp [*]; done)), HLY, H', ⟨by have := HK1.out; omega⟩, ⟨(by (with_reducible repeat (first | apply Kd.S_alloc | apply Kd.S_drewN | apply Kd.S_drew)); exact HO.out)⟩, ⟨(by repeat (first | (with_reducible first | exact HX.out | apply below_alloc | apply pw_below_drewN | apply below_drew1) | exact HX.out))⟩⟩
            · rw [if_neg c7] at H
              exact absurd H (by simp)
          · rw [if_neg c6] at H
            have c6b0 : decide (i < (L.length : Int)) = false := decide_eq_false (by rw [← HLN.out]; exact c6)
            clear c6
            obtain rfl := Option.some.inj H
            go_wp2
            go_ret2
            exact ⟨_, by first | rfl | (simp; done) | (simp [*]; done), Kd.S_lower (by (with_reducible repeat (first | apply Kd.S_alloc | apply Kd.S_drewN | apply Kd.S_drew)); exact HO.out) (below_size HBw.out), below_step HBw.out (by repeat (first | (with_reducible first | exact HX.out | apply below_alloc | apply pw_below_drewN | apply below_drew1) | exact HX.out))⟩
  · replace c0 := Bool.eq_false_iff.mpr c0
    subst c0
    rw [if_neg (show ¬ (false = true) by decide)] at h
    simp only [Option.some.injEq, Prod.mk.injEq] at h
    obtain ⟨rfl, rfl⟩ := h
    go_enter Try.func26, Try.ntmps26
    go_wp2_with (first | ((with_reducible refine gate_callee (f := 55) rfl ?_); refine goesL_ (some 12) rfl rfl Try.func55 (by kernel_rfl) rfl #[.int .i64 a0, .int .i64 a1] rfl (by (try simp only [List.map_toArray, List.map_cons, List.map_nil]); first | done | rfl) ?_; (with_reducible refine (impl_isOver.calls a0 a1 false _ A0.out).mono ?_); rintro e w' ⟨rfl, ⟨nd, rfl⟩⟩; refine ⟨_, rfl, ?_⟩))
    go_ret2
    exact ⟨_, by first | rfl | (simp; done) | (simp [*]; done), Kd.S_nil _ _ _ _ _, (by repeat (first | (with_reducible first | exact HB.out | apply below_alloc | apply pw_below_drewN | apply below_drew1) | exact HB.out))⟩

end Go.Proofs.Ytoledgkfohkfkaa.HFnExactNecklacesOf
