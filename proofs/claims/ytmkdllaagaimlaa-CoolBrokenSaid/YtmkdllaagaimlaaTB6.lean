/- Lemmas for the proof that the row of CoolBroken holds: contracts of the functions it reaches, and plain laws; no condition beyond each lemma's own. -/
import Derived.Test.YtmkdllaagaimlaaTB5
section
namespace Go.Proofs.Ytmkdllaagaimlaa.C
open Go.RowKit Go.Proofs.YtmkdllaagaimlaaW.PrintWords Go.Proofs.YtmkdllaagaimlaaW.PrintLast Go.Proofs.YtmkdllaagaimlaaW.PrintMore
attribute [local go_sem] max2_int min2_int max_two min_two max_three min_three max_four min_four   -- for this text's walks alone
set_option linter.unusedVariables false
set_option linter.unusedSimpArgs false
mutual
def taliklaw03_CoolBroken.j0 : Nat → List Int → Int → List Int → Bool → List (S60) → List (S64) → Option (Bool)
  | 0, _, _, _, _, _, _ => none
  | k + 1, x1, x2, x3, x48, x649000, x649001 => if x48 = true then ((taliklaw03_known.f k).bind fun t653 => (some t653)) else ((cool_Break.f x649000 x649001 x1 x2).bind fun bt654 => (if (x3.length : Int) ≤ x2 then ((talikref03_Without.f k x1 x3).bind fun t659 => (taliklaw03_CoolBroken.j1 k x1 x2 x3 bt654.1 bt654.2.1 bt654.2.2 ((t659.length : Int) == (wrap64 ((x1.length : Int) - (x3.length : Int)))) x649000 x649001)) else (taliklaw03_CoolBroken.j1 k x1 x2 x3 bt654.1 bt654.2.1 bt654.2.2 false x649000 x649001)))
def taliklaw03_CoolBroken.j1 : Nat → List Int → Int → List Int → Int → List Int → Int → Bool → List (S60) → List (S64) → Option (Bool)
  | 0, _, _, _, _, _, _, _, _, _ => none
  | k + 1, x1, x2, x3, x9, x10, x11, x12, x649000, x649001 => (talikref03_Without.f k x1 x3).bind fun t662 => ((talikref03_Worst.f k x649000 x649001).bind fun bt665 => ((cool_Play.f k x649000 x649001 t662 bt665.1 bt665.2).bind fun bt671 => (if bt671.2 = 0 then (taliklaw03_CoolBroken.j2 k x1 x2 x3 x9 x10 x11 x12 bt671.1 ((bt671.1.length : Int) != (x649000.length : Int)) x649000 x649001) else (taliklaw03_CoolBroken.j2 k x1 x2 x3 x9 x10 x11 x12 bt671.1 true x649000 x649001))))
def taliklaw03_CoolBroken.j2 : Nat → List Int → Int → List Int → Int → List Int → Int → Bool → List Int → Bool → List (S60) → List (S64) → Option (Bool)
  | 0, _, _, _, _, _, _, _, _, _, _, _ => none
  | k + 1, x1, x2, x3, x9, x10, x11, x12, x13, x93, x649000, x649001 => if x93 = true then (some false) else (if x11 = 0 then (if x9 < 0 then (taliklaw03_CoolBroken.j4 k x1 x3 x9 x10 x12 x13 true x649000 x649001) else (if x9 ≥ (x649000.length : Int) then (taliklaw03_CoolBroken.j4 k x1 x3 x9 x10 x12 x13 true x649000 x649001) else (if (x10.length : Int) > x2 then (taliklaw03_CoolBroken.j4 k x1 x3 x9 x10 x12 x13 true x649000 x649001) else ((talikref03_Coolers.f k x649000 x649001 x10).bind fun t677 => (if t677 = true then ((talikref03_Without.f k x1 x10).bind fun t678 => (taliklaw03_CoolBroken.j4 k x1 x3 x9 x10 x12 x13 ((t678.length : Int) != (wrap64 ((x1.length : Int) - (x10.length : Int)))) x649000 x649001)) else (taliklaw03_CoolBroken.j4 k x1 x3 x9 x10 x12 x13 true x649000 x649001)))))) else (taliklaw03_CoolBroken.l0 k x11 x12 x13 0))
def taliklaw03_CoolBroken.j4 : Nat → List Int → List Int → Int → List Int → Bool → List Int → Bool → List (S60) → List (S64) → Option (Bool)
  | 0, _, _, _, _, _, _, _, _, _ => none
  | k + 1, x1, x3, x9, x10, x12, x13, x147, x649000, x649001 => if x147 = true then (some false) else ((talikref03_Without.f k x1 x10).bind fun t681 => ((talikref03_Worst.f k x649000 x649001).bind fun bt684 => ((cool_Play.f k x649000 x649001 t681 bt684.1 bt684.2).bind fun bt690 => (if bt690.2 = 0 then (if (bt690.1.length : Int) = (x649000.length : Int) then (if 0 ≤ x9 then (if x9 < (bt690.1.length : Int) then (taliklaw03_CoolBroken.j5 k x3 x9 x10 x12 x13 (decide ((rd bt690.1 x9) ≥ 0))) else (none)) else (none)) else (taliklaw03_CoolBroken.j5 k x3 x9 x10 x12 x13 true)) else (taliklaw03_CoolBroken.j5 k x3 x9 x10 x12 x13 true)))))
def taliklaw03_CoolBroken.j5 : Nat → List Int → Int → List Int → Bool → List Int → Bool → Option (Bool)
  | 0, _, _, _, _, _, _ => none
  | k + 1, x3, x9, x10, x12, x13, x174 => if x174 = true then (some false) else (if x12 = true then (taliklaw03_CoolBroken.l1 k x3 x9 x10 x13 0) else ((taliklaw03_known.f k).bind fun t695 => (some t695)))
def taliklaw03_CoolBroken.l1 : Nat → List Int → Int → List Int → List Int → Int → Option (Bool)
  | 0, _, _, _, _, _ => none
  | k + 1, x3, x9, x10, x13, x18 => if x18 < x9 then (if 0 ≤ x18 then (if x18 < (x13.length : Int) then (if (rd x13 x18) < 0 then (some false) else (taliklaw03_CoolBroken.l1 k x3 x9 x10 x13 (wrap64 (x18 + 1)))) else (none)) else (none)) else (if 0 ≤ x9 then (if x9 < (x13.length : Int) then (if (rd x13 x9) ≥ 0 then ((taliklaw03_known.f k).bind fun t698 => (some t698)) else (if (x3.length : Int) > (x10.length : Int) then ((taliklaw03_known.f k).bind fun t699 => (some t699)) else (if (x3.length : Int) = (x10.length : Int) then ((talikref03_Before.f k x3 x10).bind fun t700 => (if t700 = true then (some false) else ((taliklaw03_known.f k).bind fun t701 => (some t701)))) else (some false)))) else (none)) else (none))
def taliklaw03_CoolBroken.l0 : Nat → Int → Bool → List Int → Int → Option (Bool)
  | 0, _, _, _, _ => none
  | k + 1, x11, x12, x13, x15 => if x15 < (x13.length : Int) then (if x12 = true then (if 0 ≤ x15 then (if (rd x13 x15) < 0 then (some false) else (taliklaw03_CoolBroken.l0 k x11 x12 x13 (wrap64 (x15 + 1)))) else (none)) else (taliklaw03_CoolBroken.l0 k x11 x12 x13 (wrap64 (x15 + 1)))) else (if x11 = 6 then ((taliklaw03_known.f k).bind fun t676 => (some t676)) else (some false))
end
def taliklaw03_CoolBroken.f (k : Nat) (l0_0 : List (S60)) (l0_1 : List (S64)) (l1 : List Int) (a2 : Int) (l3 : List Int) : Option (Bool) := (taliklaw03_short.f k l0_0 l0_1).bind fun t649 => (if t649 = true then (if (l1.length : Int) > 15 then (taliklaw03_CoolBroken.j0 k l1 a2 l3 true l0_0 l0_1) else (if (l3.length : Int) > 15 then (taliklaw03_CoolBroken.j0 k l1 a2 l3 true l0_0 l0_1) else ((taliklaw03_asked.f k l0_0 l0_1 l1).bind fun t650 => (if t650 = true then ((talikref03_Coolers.f k l0_0 l0_1 l3).bind fun t651 => (if t651 = true then ((talikref03_Fails.f a2).bind fun t652 => (taliklaw03_CoolBroken.j0 k l1 a2 l3 (!t652) l0_0 l0_1)) else (taliklaw03_CoolBroken.j0 k l1 a2 l3 true l0_0 l0_1))) else (taliklaw03_CoolBroken.j0 k l1 a2 l3 true l0_0 l0_1))))) else (taliklaw03_CoolBroken.j0 k l1 a2 l3 true l0_0 l0_1))
def taliklaw03_CoolBroken.T5 : Bool × List (List Nat × List Nat) := (true, [([], []), ([], []), ([], []), ([1, 2], [1, 2]), ([], []), ([4, 3], [4]), ([0, 3, 5, 5], [0, 3, 5]), ([6], [6]), ([7], [7]), ([7], [7]), ([8, 6, 0, 1, 2, 3, 4, 5, 6, 7, 8], [8]), ([9, 10, 0, 1, 2, 3, 4, 5, 6, 7, 8, 9, 10], [9])])
def taliklaw03_CoolBroken.B5 : List Nat := [0, 0, 0, 6, 0, 30, 63, 127, 255, 255, 511, 2047]
theorem taliklaw03_CoolBroken.tab5 : rtab .any (opsOf Try.f11 5) = taliklaw03_CoolBroken.T5 := by kernel_rfl
theorem taliklaw03_CoolBroken.bits5 : waitsOk taliklaw03_CoolBroken.T5.2 taliklaw03_CoolBroken.B5 = true := by kernel_rfl
def taliklaw03_CoolBroken.T17 : Bool × List (List Nat × List Nat) := (true, [([], []), ([], []), ([], []), ([1, 2], [1, 2]), ([], []), ([4, 3], [4]), ([0, 3, 5, 5], [0, 3, 5]), ([6], [6]), ([7], [7]), ([7], [7]), ([8, 6, 0, 1, 2, 3, 4, 5, 6, 7, 8], [8]), ([9, 10, 0, 1, 2, 3, 4, 5, 6, 7, 8, 9, 10], [9])])
def taliklaw03_CoolBroken.B17 : List Nat := [0, 0, 0, 6, 0, 30, 63, 127, 255, 255, 511, 2047]
theorem taliklaw03_CoolBroken.tab17 : rtab .any (opsOf Try.f11 17) = taliklaw03_CoolBroken.T17 := by kernel_rfl
theorem taliklaw03_CoolBroken.bits17 : waitsOk taliklaw03_CoolBroken.T17.2 taliklaw03_CoolBroken.B17 = true := by kernel_rfl
set_option maxHeartbeats 8000000 in
set_option maxRecDepth 100000 in
theorem taliklaw03_CoolBroken.calls (k : Nat) (A0_0 : Option Addr) (c0_0 : Nat) (l0_0 : List (S60)) (A0_1 : Option Addr) (c0_1 : Nat) (l0_1 : List (S64)) (A1 : Option Addr) (c1 : Nat) (l1 : List Int) (a2 : Int) (A3 : Option Addr) (c3 : Nat) (l3 : List Int) (r : Bool) (w : World) (hr0_0 : Kd.C k60 w A0_0 l0_0.length l0_0) (hc0_0 : l0_0.length ≤ c0_0) (hr0_1 : Kd.C k64 w A0_1 l0_1.length l0_1) (hc0_1 : l0_1.length ≤ c0_1) (hr1 : Kd.C (Kd.int .i64) w A1 l1.length l1) (hc1 : l1.length ≤ c1) (hr3 : Kd.C (Kd.int .i64) w A3 l3.length l3) (hc3 : l3.length ≤ c3) (h : taliklaw03_CoolBroken.f k l0_0 l0_1 l1 a2 l3 = some r) :
    Calls Try.prog 11 #[.agg #[.slice A0_0 l0_0.length c0_0, .slice A0_1 l0_1.length c0_1], .slice A1 l1.length c1, .int .i64 a2, .slice A3 l3.length c3] w fun e w' => e = .returned (.bool r) ∧ Below w.heap.size w w' := by
 have hu25 := Try.underlying25; have HR0_0 := Aside0.mk hr0_0; have HC0_0 := Aside0.mk hc0_0; clear hr0_0 hc0_0; have HR0_1 := Aside0.mk hr0_1; have HC0_1 := Aside0.mk hc0_1; clear hr0_1 hc0_1; have HR1 := Aside0.mk hr1; have HC1 := Aside0.mk hc1; clear hr1 hc1; have HR3 := Aside0.mk hr3; have HC3 := Aside0.mk hc3; clear hr3 hc3; have HB := Aside0.mk (Below.refl w.heap.size w); (have H : ((taliklaw03_short.f k l0_0 l0_1).bind fun t649 => (if t649 = true then (if (l1.length : Int) > 15 then (taliklaw03_CoolBroken.j0 k l1 a2 l3 true l0_0 l0_1) else (if (l3.length : Int) > 15 then (taliklaw03_CoolBroken.j0 k l1 a2 l3 true l0_0 l0_1) else ((taliklaw03_asked.f k l0_0 l0_1 l1).bind fun t650 => (if t650 = true then ((talikref03_Coolers.f k l0_0 l0_1 l3).bind fun t651 => (if t651 = true then ((talikref03_Fails.f a2).bind fun t652 => (taliklaw03_CoolBroken.j0 k l1 a2 l3 (!t652) l0_0 l0_1)) else (taliklaw03_CoolBroken.j0 k l1 a2 l3 true l0_0 l0_1))) else (taliklaw03_CoolBroken.j0 k l1 a2 l3 true l0_0 l0_1))))) else (taliklaw03_CoolBroken.j0 k l1 a2 l3 true l0_0 l0_1))) = some r := h); clear h; have HC5 := Aside0.mk H; clear H; go_enter Try.func11, Try.ntmps11; (go_upto_region 1 with (first | ((with_reducible refine gate_dst (N := 4) rfl ?_); (try (refine gate_guard (by rfl) ?_; dsimp only)); refine box_event ?hg (N := 4) ?hd (cs := #[.slice A0_0 l0_0.length c0_0, .slice A0_1 l0_1.length c0_1]) (t := 25) ?hr ?_; (case hd => rfl); (case hg => rfl); (case hr => first | (go_simp; done) | (go_simp; rfl)); intro gb648 hg w6 hbox hb; have n0_ := Aside0.mk (below_step (by repeat (first | (with_reducible first | exact HB.out | apply below_alloc | apply pw_below_drewN | apply below_drew1) | exact HB.out)) hb); have n1_ := Aside0.mk (hbox); have n2_ := Aside0.mk ((by rw [hg]; exact (below_size (by repeat (first | (with_reducible first | exact HB.out | apply below_alloc | apply pw_below_drewN | apply below_drew1) | exact HB.out))) : w.heap.size ≤ gb648)); have n3_ := Aside0.mk ((by rw [hg]; exact (below_size (by repeat (first | (with_reducible first | exact HB.out | apply below_alloc | apply pw_below_drewN | apply below_drew1) | exact HB.out))) : w.heap.size ≤ gb648)); clear HB; have HB := n0_; have BK648 := n1_; have GW648 := n2_; have GE648 := n3_; clear n0_ n1_ n2_ n3_; clear hb hbox hg))); ((try simp only [Act.put, List.setIfInBounds_toArray, List.set_cons_zero, List.set_cons_succ])); (go_cut [48] (fun v48 wc => ∃ (kq : Nat) (x48_4 : Bool), v48 = .bool x48_4 ∧ Aside0 (taliklaw03_CoolBroken.j0 kq l1 a2 l3 x48_4 l0_0 l0_1 = some r) ∧ Aside0 (kq ≤ k) ∧ Aside0 (wc.heap[gb648]? = some (.cells #[(.slice A0_0 l0_0.length c0_0), (.slice A0_1 l0_1.length c0_1)] 25 (0, 0))) ∧ Aside0 (Below w.heap.size w wc)))
 case first => as_aux_lemma =>
  have H := HC5.out; clear HC5; obtain ⟨t649, A70, H⟩ := Option.bind_eq_some_iff.mp H; (replace H : (if t649 = true then (if (l1.length : Int) > 15 then (taliklaw03_CoolBroken.j0 k l1 a2 l3 true l0_0 l0_1) else (if (l3.length : Int) > 15 then (taliklaw03_CoolBroken.j0 k l1 a2 l3 true l0_0 l0_1) else ((taliklaw03_asked.f k l0_0 l0_1 l1).bind fun t650 => (if t650 = true then ((talikref03_Coolers.f k l0_0 l0_1 l3).bind fun t651 => (if t651 = true then ((talikref03_Fails.f a2).bind fun t652 => (taliklaw03_CoolBroken.j0 k l1 a2 l3 (!t652) l0_0 l0_1)) else (taliklaw03_CoolBroken.j0 k l1 a2 l3 true l0_0 l0_1))) else (taliklaw03_CoolBroken.j0 k l1 a2 l3 true l0_0 l0_1))))) else (taliklaw03_CoolBroken.j0 k l1 a2 l3 true l0_0 l0_1)) = some r := H); have A7 := Aside0.mk A70; clear A70; by_cases c8 : t649 = true
  · subst c8; (replace H : (if (l1.length : Int) > 15 then (taliklaw03_CoolBroken.j0 k l1 a2 l3 true l0_0 l0_1) else (if (l3.length : Int) > 15 then (taliklaw03_CoolBroken.j0 k l1 a2 l3 true l0_0 l0_1) else ((taliklaw03_asked.f k l0_0 l0_1 l1).bind fun t650 => (if t650 = true then ((talikref03_Coolers.f k l0_0 l0_1 l3).bind fun t651 => (if t651 = true then ((talikref03_Fails.f a2).bind fun t652 => (taliklaw03_CoolBroken.j0 k l1 a2 l3 (!t652) l0_0 l0_1)) else (taliklaw03_CoolBroken.j0 k l1 a2 l3 true l0_0 l0_1))) else (taliklaw03_CoolBroken.j0 k l1 a2 l3 true l0_0 l0_1))))) = some r := by rw [if_pos rfl] at H; exact H); by_cases c9 : (l1.length : Int) > 15
    · rw [if_pos c9] at H; have c9b0 : decide (15 < (l1.length : Int)) = true := decide_eq_true c9; (have c9b1 : decide (15 < l1.length) = true := decide_eq_true (by omega)); clear c9; ((first | rw [c9b0] | (simp only [i64_w, i32_w]; rw [c9b0]) | skip)); have H' := Aside0.mk H; clear H; have hcz10_0 : w6.cell? ⟨gb648, 0, none⟩ = some (.slice A0_0 l0_0.length c0_0) := (blk_cell BK648.out 0).trans rfl; have hcz10_1 : w6.cell? ⟨gb648, 1, none⟩ = some (.slice A0_1 l0_1.length c0_1) := (blk_cell BK648.out 1).trans rfl; have hfz10_0 := blk_frozen BK648.out 0; have hfz10_1 := blk_frozen BK648.out 1; (go_wp2_with (first | ((with_reducible refine gate_callee (f := 12) rfl ?_); refine goesL_ (some 20) rfl rfl Try.func12 (by kernel_rfl) rfl #[.agg #[.slice A0_0 l0_0.length c0_0, .slice A0_1 l0_1.length c0_1]] rfl (by (try simp only [List.map_toArray, List.map_cons, List.map_nil]); first | done | rfl | (simp only [List.length_drop, List.length_take]; rfl)) ?_; (with_reducible refine (taliklaw03_short.calls k _ _ l0_0 _ _ l0_1 true _ ?side1 ?side2 ?side3 ?side4 A7.out).mono ?_); (case side1 => repeat (first | exact (Kd.C_below HR0_0.out HB.out) | (with_reducible refine Kd.C_alloc ?_ _) | (with_reducible refine Kd.C_drewN ?_ _) | (with_reducible refine Kd.C_drew ?_))); (case side2 => exact HC0_0.out); (case side3 => repeat (first | exact (Kd.C_below HR0_1.out HB.out) | (with_reducible refine Kd.C_alloc ?_ _) | (with_reducible refine Kd.C_drewN ?_ _) | (with_reducible refine Kd.C_drew ?_))); (case side4 => exact HC0_1.out); rintro e w11 ⟨rfl, hb⟩; refine ⟨_, rfl, ?_⟩; have n0_ := Aside0.mk (blk_below (g := gb648) (o := .cells #[.slice A0_0 l0_0.length c0_0, .slice A0_1 l0_1.length c0_1] 25 (0, 0)) (by (with_reducible repeat (first | refine blk_drewN ?_ _ | refine blk_drew ?_ | refine blk_alloc ?_ _)); exact BK648.out) hb); have n1_ := Aside0.mk (below_step (by repeat (first | (with_reducible first | exact HB.out | apply below_alloc | apply pw_below_drewN | apply below_drew1 | refine below_set ?_ GE648.out) | exact HB.out)) hb); clear BK648; clear HB; have BK648 := n0_; have HB := n1_; clear n0_ n1_; (try clear hb); (try clear hb2); (try clear hk); (try clear hi)))); go_meet; (case rel => exact ⟨_, (true), (by first | rfl | (simp; done) | (simp [*]; done)), H', ⟨by first | omega | exact Nat.le_refl _⟩, ⟨by (with_reducible repeat (first | refine blk_drewN ?_ _ | refine blk_drew ?_ | refine blk_alloc ?_ _)); exact BK648.out⟩, ⟨by repeat (first | (with_reducible first | exact HB.out | apply below_alloc | apply pw_below_drewN | apply below_drew1 | refine below_set ?_ GE648.out) | exact HB.out)⟩⟩)
    · rw [if_neg c9] at H; have c9b0 : decide (15 < (l1.length : Int)) = false := decide_eq_false c9; (have c9b1 : decide (15 < l1.length) = false := decide_eq_false (by omega)); clear c9; ((first | rw [c9b0] | (simp only [i64_w, i32_w]; rw [c9b0]) | skip)); by_cases c12 : (l3.length : Int) > 15
      · rw [if_pos c12] at H; have c12b0 : decide (15 < (l3.length : Int)) = true := decide_eq_true c12; (have c12b1 : decide (15 < l3.length) = true := decide_eq_true (by omega)); clear c12; have H' := Aside0.mk H; clear H; have hcz13_0 : w6.cell? ⟨gb648, 0, none⟩ = some (.slice A0_0 l0_0.length c0_0) := (blk_cell BK648.out 0).trans rfl; have hcz13_1 : w6.cell? ⟨gb648, 1, none⟩ = some (.slice A0_1 l0_1.length c0_1) := (blk_cell BK648.out 1).trans rfl; have hfz13_0 := blk_frozen BK648.out 0; have hfz13_1 := blk_frozen BK648.out 1; (go_wp2_with (first | ((with_reducible refine gate_callee (f := 12) rfl ?_); refine goesL_ (some 20) rfl rfl Try.func12 (by kernel_rfl) rfl #[.agg #[.slice A0_0 l0_0.length c0_0, .slice A0_1 l0_1.length c0_1]] rfl (by (try simp only [List.map_toArray, List.map_cons, List.map_nil]); first | done | rfl | (simp only [List.length_drop, List.length_take]; rfl)) ?_; (with_reducible refine (taliklaw03_short.calls k _ _ l0_0 _ _ l0_1 true _ ?side1 ?side2 ?side3 ?side4 A7.out).mono ?_); (case side1 => repeat (first | exact (Kd.C_below HR0_0.out HB.out) | (with_reducible refine Kd.C_alloc ?_ _) | (with_reducible refine Kd.C_drewN ?_ _) | (with_reducible refine Kd.C_drew ?_))); (case side2 => exact HC0_0.out); (case side3 => repeat (first | exact (Kd.C_below HR0_1.out HB.out) | (with_reducible refine Kd.C_alloc ?_ _) | (with_reducible refine Kd.C_drewN ?_ _) | (with_reducible refine Kd.C_drew ?_))); (case side4 => exact HC0_1.out); rintro e w14 ⟨rfl, hb⟩; refine ⟨_, rfl, ?_⟩; have n0_ := Aside0.mk (blk_below (g := gb648) (o := .cells #[.slice A0_0 l0_0.length c0_0, .slice A0_1 l0_1.length c0_1] 25 (0, 0)) (by (with_reducible repeat (first | refine blk_drewN ?_ _ | refine blk_drew ?_ | refine blk_alloc ?_ _)); exact BK648.out) hb); have n1_ := Aside0.mk (below_step (by repeat (first | (with_reducible first | exact HB.out | apply below_alloc | apply pw_below_drewN | apply below_drew1 | refine below_set ?_ GE648.out) | exact HB.out)) hb); clear BK648; clear HB; have BK648 := n0_; have HB := n1_; clear n0_ n1_; (try clear hb); (try clear hb2); (try clear hk); (try clear hi)))); go_meet; (case rel => exact ⟨_, (true), (by first | rfl | (simp; done) | (simp [*]; done)), H', ⟨by first | omega | exact Nat.le_refl _⟩, ⟨by (with_reducible repeat (first | refine blk_drewN ?_ _ | refine blk_drew ?_ | refine blk_alloc ?_ _)); exact BK648.out⟩, ⟨by repeat (first | (with_reducible first | exact HB.out | apply below_alloc | apply pw_below_drewN | apply below_drew1 | refine below_set ?_ GE648.out) | exact HB.out)⟩⟩)
      · rw [if_neg c12] at H; have c12b0 : decide (15 < (l3.length : Int)) = false := decide_eq_false c12; (have c12b1 : decide (15 < l3.length) = false := decide_eq_false (by omega)); clear c12; obtain ⟨t650, A150, H⟩ := Option.bind_eq_some_iff.mp H; (replace H : (if t650 = true then ((talikref03_Coolers.f k l0_0 l0_1 l3).bind fun t651 => (if t651 = true then ((talikref03_Fails.f a2).bind fun t652 => (taliklaw03_CoolBroken.j0 k l1 a2 l3 (!t652) l0_0 l0_1)) else (taliklaw03_CoolBroken.j0 k l1 a2 l3 true l0_0 l0_1))) else (taliklaw03_CoolBroken.j0 k l1 a2 l3 true l0_0 l0_1)) = some r := H); have A15 := Aside0.mk A150; clear A150; by_cases c16 : t650 = true
        · subst c16; (replace H : ((talikref03_Coolers.f k l0_0 l0_1 l3).bind fun t651 => (if t651 = true then ((talikref03_Fails.f a2).bind fun t652 => (taliklaw03_CoolBroken.j0 k l1 a2 l3 (!t652) l0_0 l0_1)) else (taliklaw03_CoolBroken.j0 k l1 a2 l3 true l0_0 l0_1))) = some r := by rw [if_pos rfl] at H; exact H); obtain ⟨t651, A170, H⟩ := Option.bind_eq_some_iff.mp H; (replace H : (if t651 = true then ((talikref03_Fails.f a2).bind fun t652 => (taliklaw03_CoolBroken.j0 k l1 a2 l3 (!t652) l0_0 l0_1)) else (taliklaw03_CoolBroken.j0 k l1 a2 l3 true l0_0 l0_1)) = some r := H); have A17 := Aside0.mk A170; clear A170; by_cases c18 : t651 = true
          · subst c18; (replace H : ((talikref03_Fails.f a2).bind fun t652 => (taliklaw03_CoolBroken.j0 k l1 a2 l3 (!t652) l0_0 l0_1)) = some r := by rw [if_pos rfl] at H; exact H); obtain ⟨t652, A190, H⟩ := Option.bind_eq_some_iff.mp H; replace H : (taliklaw03_CoolBroken.j0 k l1 a2 l3 (!t652) l0_0 l0_1) = some r := H; have A19 := Aside0.mk A190; clear A190; have H' := Aside0.mk H; clear H; have hcz20_0 : w6.cell? ⟨gb648, 0, none⟩ = some (.slice A0_0 l0_0.length c0_0) := (blk_cell BK648.out 0).trans rfl; have hcz20_1 : w6.cell? ⟨gb648, 1, none⟩ = some (.slice A0_1 l0_1.length c0_1) := (blk_cell BK648.out 1).trans rfl; have hfz20_0 := blk_frozen BK648.out 0; have hfz20_1 := blk_frozen BK648.out 1; (go_wp2_with (first | ((with_reducible refine gate_callee (f := 12) rfl ?_); refine goesL_ (some 20) rfl rfl Try.func12 (by kernel_rfl) rfl #[.agg #[.slice A0_0 l0_0.length c0_0, .slice A0_1 l0_1.length c0_1]] rfl (by (try simp only [List.map_toArray, List.map_cons, List.map_nil]); first | done | rfl | (simp only [List.length_drop, List.length_take]; rfl)) ?_; (with_reducible refine (taliklaw03_short.calls k _ _ l0_0 _ _ l0_1 true _ ?side1 ?side2 ?side3 ?side4 A7.out).mono ?_); (case side1 => repeat (first | exact (Kd.C_below HR0_0.out HB.out) | (with_reducible refine Kd.C_alloc ?_ _) | (with_reducible refine Kd.C_drewN ?_ _) | (with_reducible refine Kd.C_drew ?_))); (case side2 => exact HC0_0.out); (case side3 => repeat (first | exact (Kd.C_below HR0_1.out HB.out) | (with_reducible refine Kd.C_alloc ?_ _) | (with_reducible refine Kd.C_drewN ?_ _) | (with_reducible refine Kd.C_drew ?_))); (case side4 => exact HC0_1.out); rintro e w21 ⟨rfl, hb⟩; refine ⟨_, rfl, ?_⟩; have n0_ := Aside0.mk (blk_below (g := gb648) (o := .cells #[.slice A0_0 l0_0.length c0_0, .slice A0_1 l0_1.length c0_1] 25 (0, 0)) (by (with_reducible repeat (first | refine blk_drewN ?_ _ | refine blk_drew ?_ | refine blk_alloc ?_ _)); exact BK648.out) hb); have n1_ := Aside0.mk (below_step (by repeat (first | (with_reducible first | exact HB.out | apply below_alloc | apply pw_below_drewN | apply below_drew1 | refine below_set ?_ GE648.out) | exact HB.out)) hb); clear BK648; clear HB; have BK648 := n0_; have HB := n1_; clear n0_ n1_; (try clear hb); (try clear hb2); (try clear hk); (try clear hi); have hcz22_0 : w21.cell? ⟨gb648, 0, none⟩ = some (.slice A0_0 l0_0.length c0_0) := (blk_cell BK648.out 0).trans rfl; have hcz22_1 : w21.cell? ⟨gb648, 1, none⟩ = some (.slice A0_1 l0_1.length c0_1) := (blk_cell BK648.out 1).trans rfl; have hfz22_0 := blk_frozen BK648.out 0; have hfz22_1 := blk_frozen BK648.out 1) | (go_at_call 22; (with_reducible refine (taliklaw03_asked.calls k _ _ l0_0 _ _ l0_1 _ _ l1 true _ ?side1 ?side2 ?side3 ?side4 ?side5 ?side6 A15.out).mono ?_); (case side1 => repeat (first | exact (Kd.C_below HR0_0.out HB.out) | (with_reducible refine Kd.C_alloc ?_ _) | (with_reducible refine Kd.C_drewN ?_ _) | (with_reducible refine Kd.C_drew ?_))); (case side2 => exact HC0_0.out); (case side3 => repeat (first | exact (Kd.C_below HR0_1.out HB.out) | (with_reducible refine Kd.C_alloc ?_ _) | (with_reducible refine Kd.C_drewN ?_ _) | (with_reducible refine Kd.C_drew ?_))); (case side4 => exact HC0_1.out); (case side5 => repeat (first | exact (Kd.C_below HR1.out HB.out) | (with_reducible refine Kd.C_alloc ?_ _) | (with_reducible refine Kd.C_drewN ?_ _) | (with_reducible refine Kd.C_drew ?_))); (case side6 => exact HC1.out); rintro e w23 ⟨rfl, hb⟩; have n0_ := Aside0.mk (blk_below (g := gb648) (o := .cells #[.slice A0_0 l0_0.length c0_0, .slice A0_1 l0_1.length c0_1] 25 (0, 0)) (by (with_reducible repeat (first | refine blk_drewN ?_ _ | refine blk_drew ?_ | refine blk_alloc ?_ _)); exact BK648.out) hb); have n1_ := Aside0.mk (below_step (by repeat (first | (with_reducible first | exact HB.out | apply below_alloc | apply pw_below_drewN | apply below_drew1 | refine below_set ?_ GE648.out) | exact HB.out)) hb); clear BK648; clear HB; have BK648 := n0_; have HB := n1_; clear n0_ n1_; (try clear hb); (try clear hb2); (try clear hk); (try clear hi); have hcz24_0 : w23.cell? ⟨gb648, 0, none⟩ = some (.slice A0_0 l0_0.length c0_0) := (blk_cell BK648.out 0).trans rfl; have hcz24_1 : w23.cell? ⟨gb648, 1, none⟩ = some (.slice A0_1 l0_1.length c0_1) := (blk_cell BK648.out 1).trans rfl; have hfz24_0 := blk_frozen BK648.out 0; have hfz24_1 := blk_frozen BK648.out 1) | (go_at_call 24; (with_reducible refine (talikref03_Coolers.calls k _ _ l0_0 _ _ l0_1 _ _ l3 true _ ?side1 ?side2 ?side3 ?side4 ?side5 ?side6 A17.out).mono ?_); (case side1 => repeat (first | exact (Kd.C_below HR0_0.out HB.out) | (with_reducible refine Kd.C_alloc ?_ _) | (with_reducible refine Kd.C_drewN ?_ _) | (with_reducible refine Kd.C_drew ?_))); (case side2 => exact HC0_0.out); (case side3 => repeat (first | exact (Kd.C_below HR0_1.out HB.out) | (with_reducible refine Kd.C_alloc ?_ _) | (with_reducible refine Kd.C_drewN ?_ _) | (with_reducible refine Kd.C_drew ?_))); (case side4 => exact HC0_1.out); (case side5 => repeat (first | exact (Kd.C_below HR3.out HB.out) | (with_reducible refine Kd.C_alloc ?_ _) | (with_reducible refine Kd.C_drewN ?_ _) | (with_reducible refine Kd.C_drew ?_))); (case side6 => exact HC3.out); rintro e w25 ⟨rfl, hb⟩; have n0_ := Aside0.mk (blk_below (g := gb648) (o := .cells #[.slice A0_0 l0_0.length c0_0, .slice A0_1 l0_1.length c0_1] 25 (0, 0)) (by (with_reducible repeat (first | refine blk_drewN ?_ _ | refine blk_drew ?_ | refine blk_alloc ?_ _)); exact BK648.out) hb); have n1_ := Aside0.mk (below_step (by repeat (first | (with_reducible first | exact HB.out | apply below_alloc | apply pw_below_drewN | apply below_drew1 | refine below_set ?_ GE648.out) | exact HB.out)) hb); clear BK648; clear HB; have BK648 := n0_; have HB := n1_; clear n0_ n1_; (try clear hb); (try clear hb2); (try clear hk); (try clear hi)) | (go_at_call 17; (with_reducible refine (talikref03_Fails.calls a2 t652 _ A19.out).mono ?_); rintro e w' ⟨rfl, ⟨nd, rfl⟩⟩))); go_meet; (case rel => exact ⟨_, (!t652), (by first | rfl | (simp; done) | (simp [*]; done)), H', ⟨by first | omega | exact Nat.le_refl _⟩, ⟨by (with_reducible repeat (first | refine blk_drewN ?_ _ | refine blk_drew ?_ | refine blk_alloc ?_ _)); exact BK648.out⟩, ⟨by repeat (first | (with_reducible first | exact HB.out | apply below_alloc | apply pw_below_drewN | apply below_drew1 | refine below_set ?_ GE648.out) | exact HB.out)⟩⟩)
          · replace c18 := Bool.eq_false_iff.mpr c18; subst c18; (replace H : (taliklaw03_CoolBroken.j0 k l1 a2 l3 true l0_0 l0_1) = some r := by rw [if_neg (show ¬ (false = true) by decide)] at H; exact H); have H' := Aside0.mk H; clear H; have hcz26_0 : w6.cell? ⟨gb648, 0, none⟩ = some (.slice A0_0 l0_0.length c0_0) := (blk_cell BK648.out 0).trans rfl; have hcz26_1 : w6.cell? ⟨gb648, 1, none⟩ = some (.slice A0_1 l0_1.length c0_1) := (blk_cell BK648.out 1).trans rfl; have hfz26_0 := blk_frozen BK648.out 0; have hfz26_1 := blk_frozen BK648.out 1; (go_wp2_with (first | ((with_reducible refine gate_callee (f := 12) rfl ?_); refine goesL_ (some 20) rfl rfl Try.func12 (by kernel_rfl) rfl #[.agg #[.slice A0_0 l0_0.length c0_0, .slice A0_1 l0_1.length c0_1]] rfl (by (try simp only [List.map_toArray, List.map_cons, List.map_nil]); first | done | rfl | (simp only [List.length_drop, List.length_take]; rfl)) ?_; (with_reducible refine (taliklaw03_short.calls k _ _ l0_0 _ _ l0_1 true _ ?side1 ?side2 ?side3 ?side4 A7.out).mono ?_); (case side1 => repeat (first | exact (Kd.C_below HR0_0.out HB.out) | (with_reducible refine Kd.C_alloc ?_ _) | (with_reducible refine Kd.C_drewN ?_ _) | (with_reducible refine Kd.C_drew ?_))); (case side2 => exact HC0_0.out); (case side3 => repeat (first | exact (Kd.C_below HR0_1.out HB.out) | (with_reducible refine Kd.C_alloc ?_ _) | (with_reducible refine Kd.C_drewN ?_ _) | (with_reducible refine Kd.C_drew ?_))); (case side4 => exact HC0_1.out); rintro e w27 ⟨rfl, hb⟩; refine ⟨_, rfl, ?_⟩; have n0_ := Aside0.mk (blk_below (g := gb648) (o := .cells #[.slice A0_0 l0_0.length c0_0, .slice A0_1 l0_1.length c0_1] 25 (0, 0)) (by (with_reducible repeat (first | refine blk_drewN ?_ _ | refine blk_drew ?_ | refine blk_alloc ?_ _)); exact BK648.out) hb); have n1_ := Aside0.mk (below_step (by repeat (first | (with_reducible first | exact HB.out | apply below_alloc | apply pw_below_drewN | apply below_drew1 | refine below_set ?_ GE648.out) | exact HB.out)) hb); clear BK648; clear HB; have BK648 := n0_; have HB := n1_; clear n0_ n1_; (try clear hb); (try clear hb2); (try clear hk); (try clear hi); have hcz28_0 : w27.cell? ⟨gb648, 0, none⟩ = some (.slice A0_0 l0_0.length c0_0) := (blk_cell BK648.out 0).trans rfl; have hcz28_1 : w27.cell? ⟨gb648, 1, none⟩ = some (.slice A0_1 l0_1.length c0_1) := (blk_cell BK648.out 1).trans rfl; have hfz28_0 := blk_frozen BK648.out 0; have hfz28_1 := blk_frozen BK648.out 1) | (go_at_call 22; (with_reducible refine (taliklaw03_asked.calls k _ _ l0_0 _ _ l0_1 _ _ l1 true _ ?side1 ?side2 ?side3 ?side4 ?side5 ?side6 A15.out).mono ?_); (case side1 => repeat (first | exact (Kd.C_below HR0_0.out HB.out) | (with_reducible refine Kd.C_alloc ?_ _) | (with_reducible refine Kd.C_drewN ?_ _) | (with_reducible refine Kd.C_drew ?_))); (case side2 => exact HC0_0.out); (case side3 => repeat (first | exact (Kd.C_below HR0_1.out HB.out) | (with_reducible refine Kd.C_alloc ?_ _) | (with_reducible refine Kd.C_drewN ?_ _) | (with_reducible refine Kd.C_drew ?_))); (case side4 => exact HC0_1.out); (case side5 => repeat (first | exact (Kd.C_below HR1.out HB.out) | (with_reducible refine Kd.C_alloc ?_ _) | (with_reducible refine Kd.C_drewN ?_ _) | (with_reducible refine Kd.C_drew ?_))); (case side6 => exact HC1.out); rintro e w29 ⟨rfl, hb⟩; have n0_ := Aside0.mk (blk_below (g := gb648) (o := .cells #[.slice A0_0 l0_0.length c0_0, .slice A0_1 l0_1.length c0_1] 25 (0, 0)) (by (with_reducible repeat (first | refine blk_drewN ?_ _ | refine blk_drew ?_ | refine blk_alloc ?_ _)); exact BK648.out) hb); have n1_ := Aside0.mk (below_step (by repeat (first | (with_reducible first | exact HB.out | apply below_alloc | apply pw_below_drewN | apply below_drew1 | refine below_set ?_ GE648.out) | exact HB.out)) hb); clear BK648; clear HB; have BK648 := n0_; have HB := n1_; clear n0_ n1_; (try clear hb); (try clear hb2); (try clear hk); (try clear hi); have hcz30_0 : w29.cell? ⟨gb648, 0, none⟩ = some (.slice A0_0 l0_0.length c0_0) := (blk_cell BK648.out 0).trans rfl; have hcz30_1 : w29.cell? ⟨gb648, 1, none⟩ = some (.slice A0_1 l0_1.length c0_1) := (blk_cell BK648.out 1).trans rfl; have hfz30_0 := blk_frozen BK648.out 0; have hfz30_1 := blk_frozen BK648.out 1) | (go_at_call 24; (with_reducible refine (talikref03_Coolers.calls k _ _ l0_0 _ _ l0_1 _ _ l3 false _ ?side1 ?side2 ?side3 ?side4 ?side5 ?side6 A17.out).mono ?_); (case side1 => repeat (first | exact (Kd.C_below HR0_0.out HB.out) | (with_reducible refine Kd.C_alloc ?_ _) | (with_reducible refine Kd.C_drewN ?_ _) | (with_reducible refine Kd.C_drew ?_))); (case side2 => exact HC0_0.out); (case side3 => repeat (first | exact (Kd.C_below HR0_1.out HB.out) | (with_reducible refine Kd.C_alloc ?_ _) | (with_reducible refine Kd.C_drewN ?_ _) | (with_reducible refine Kd.C_drew ?_))); (case side4 => exact HC0_1.out); (case side5 => repeat (first | exact (Kd.C_below HR3.out HB.out) | (with_reducible refine Kd.C_alloc ?_ _) | (with_reducible refine Kd.C_drewN ?_ _) | (with_reducible refine Kd.C_drew ?_))); (case side6 => exact HC3.out); rintro e w31 ⟨rfl, hb⟩; have n0_ := Aside0.mk (blk_below (g := gb648) (o := .cells #[.slice A0_0 l0_0.length c0_0, .slice A0_1 l0_1.length c0_1] 25 (0, 0)) (by (with_reducible repeat (first | refine blk_drewN ?_ _ | refine blk_drew ?_ | refine blk_alloc ?_ _)); exact BK648.out) hb); have n1_ := Aside0.mk (below_step (by repeat (first | (with_reducible first | exact HB.out | apply below_alloc | apply pw_below_drewN | apply below_drew1 | refine below_set ?_ GE648.out) | exact HB.out)) hb); clear BK648; clear HB; have BK648 := n0_; have HB := n1_; clear n0_ n1_; (try clear hb); (try clear hb2); (try clear hk); (try clear hi)))); go_meet; (case rel => exact ⟨_, (true), (by first | rfl | (simp; done) | (simp [*]; done)), H', ⟨by first | omega | exact Nat.le_refl _⟩, ⟨by (with_reducible repeat (first | refine blk_drewN ?_ _ | refine blk_drew ?_ | refine blk_alloc ?_ _)); exact BK648.out⟩, ⟨by repeat (first | (with_reducible first | exact HB.out | apply below_alloc | apply pw_below_drewN | apply below_drew1 | refine below_set ?_ GE648.out) | exact HB.out)⟩⟩)
        · replace c16 := Bool.eq_false_iff.mpr c16; subst c16; (replace H : (taliklaw03_CoolBroken.j0 k l1 a2 l3 true l0_0 l0_1) = some r := by rw [if_neg (show ¬ (false = true) by decide)] at H; exact H); have H' := Aside0.mk H; clear H; have hcz32_0 : w6.cell? ⟨gb648, 0, none⟩ = some (.slice A0_0 l0_0.length c0_0) := (blk_cell BK648.out 0).trans rfl; have hcz32_1 : w6.cell? ⟨gb648, 1, none⟩ = some (.slice A0_1 l0_1.length c0_1) := (blk_cell BK648.out 1).trans rfl; have hfz32_0 := blk_frozen BK648.out 0; have hfz32_1 := blk_frozen BK648.out 1; (go_wp2_with (first | ((with_reducible refine gate_callee (f := 12) rfl ?_); refine goesL_ (some 20) rfl rfl Try.func12 (by kernel_rfl) rfl #[.agg #[.slice A0_0 l0_0.length c0_0, .slice A0_1 l0_1.length c0_1]] rfl (by (try simp only [List.map_toArray, List.map_cons, List.map_nil]); first | done | rfl | (simp only [List.length_drop, List.length_take]; rfl)) ?_; (with_reducible refine (taliklaw03_short.calls k _ _ l0_0 _ _ l0_1 true _ ?side1 ?side2 ?side3 ?side4 A7.out).mono ?_); (case side1 => repeat (first | exact (Kd.C_below HR0_0.out HB.out) | (with_reducible refine Kd.C_alloc ?_ _) | (with_reducible refine Kd.C_drewN ?_ _) | (with_reducible refine Kd.C_drew ?_))); (case side2 => exact HC0_0.out); (case side3 => repeat (first | exact (Kd.C_below HR0_1.out HB.out) | (with_reducible refine Kd.C_alloc ?_ _) | (with_reducible refine Kd.C_drewN ?_ _) | (with_reducible refine Kd.C_drew ?_))); (case side4 => exact HC0_1.out); rintro e w33 ⟨rfl, hb⟩; refine ⟨_, rfl, ?_⟩; have n0_ := Aside0.mk (blk_below (g := gb648) (o := .cells #[.slice A0_0 l0_0.length c0_0, .slice A0_1 l0_1.length c0_1] 25 (0, 0)) (by (with_reducible repeat (first | refine blk_drewN ?_ _ | refine blk_drew ?_ | refine blk_alloc ?_ _)); exact BK648.out) hb); have n1_ := Aside0.mk (below_step (by repeat (first | (with_reducible first | exact HB.out | apply below_alloc | apply pw_below_drewN | apply below_drew1 | refine below_set ?_ GE648.out) | exact HB.out)) hb); clear BK648; clear HB; have BK648 := n0_; have HB := n1_; clear n0_ n1_; (try clear hb); (try clear hb2); (try clear hk); (try clear hi); have hcz34_0 : w33.cell? ⟨gb648, 0, none⟩ = some (.slice A0_0 l0_0.length c0_0) := (blk_cell BK648.out 0).trans rfl; have hcz34_1 : w33.cell? ⟨gb648, 1, none⟩ = some (.slice A0_1 l0_1.length c0_1) := (blk_cell BK648.out 1).trans rfl; have hfz34_0 := blk_frozen BK648.out 0; have hfz34_1 := blk_frozen BK648.out 1) | (go_at_call 22; (with_reducible refine (taliklaw03_asked.calls k _ _ l0_0 _ _ l0_1 _ _ l1 false _ ?side1 ?side2 ?side3 ?side4 ?side5 ?side6 A15.out).mono ?_); (case side1 => repeat (first | exact (Kd.C_below HR0_0.out HB.out) | (with_reducible refine Kd.C_alloc ?_ _) | (with_reducible refine Kd.C_drewN ?_ _) | (with_reducible refine Kd.C_drew ?_))); (case side2 => exact HC0_0.out); (case side3 => repeat (first | exact (Kd.C_below HR0_1.out HB.out) | (with_reducible refine Kd.C_alloc ?_ _) | (with_reducible refine Kd.C_drewN ?_ _) | (with_reducible refine Kd.C_drew ?_))); (case side4 => exact HC0_1.out); (case side5 => repeat (first | exact (Kd.C_below HR1.out HB.out) | (with_reducible refine Kd.C_alloc ?_ _) | (with_reducible refine Kd.C_drewN ?_ _) | (with_reducible refine Kd.C_drew ?_))); (case side6 => exact HC1.out); rintro e w35 ⟨rfl, hb⟩; have n0_ := Aside0.mk (blk_below (g := gb648) (o := .cells #[.slice A0_0 l0_0.length c0_0, .slice A0_1 l0_1.length c0_1] 25 (0, 0)) (by (with_reducible repeat (first | refine blk_drewN ?_ _ | refine blk_drew ?_ | refine blk_alloc ?_ _)); exact BK648.out) hb); have n1_ := Aside0.mk (below_step (by repeat (first | (with_reducible first | exact HB.out | apply below_alloc | apply pw_below_drewN | apply below_drew1 | refine below_set ?_ GE648.out) | exact HB.out)) hb); clear BK648; clear HB; have BK648 := n0_; have HB := n1_; clear n0_ n1_; (try clear hb); (try clear hb2); (try clear hk); (try clear hi)))); go_meet; (case rel => exact ⟨_, (true), (by first | rfl | (simp; done) | (simp [*]; done)), H', ⟨by first | omega | exact Nat.le_refl _⟩, ⟨by (with_reducible repeat (first | refine blk_drewN ?_ _ | refine blk_drew ?_ | refine blk_alloc ?_ _)); exact BK648.out⟩, ⟨by repeat (first | (with_reducible first | exact HB.out | apply below_alloc | apply pw_below_drewN | apply below_drew1 | refine below_set ?_ GE648.out) | exact HB.out)⟩⟩)
  · replace c8 := Bool.eq_false_iff.mpr c8; subst c8; (replace H : (taliklaw03_CoolBroken.j0 k l1 a2 l3 true l0_0 l0_1) = some r := by rw [if_neg (show ¬ (false = true) by decide)] at H; exact H); have H' := Aside0.mk H; clear H; have hcz36_0 : w6.cell? ⟨gb648, 0, none⟩ = some (.slice A0_0 l0_0.length c0_0) := (blk_cell BK648.out 0).trans rfl; have hcz36_1 : w6.cell? ⟨gb648, 1, none⟩ = some (.slice A0_1 l0_1.length c0_1) := (blk_cell BK648.out 1).trans rfl; have hfz36_0 := blk_frozen BK648.out 0; have hfz36_1 := blk_frozen BK648.out 1; (go_wp2_with (first | ((with_reducible refine gate_callee (f := 12) rfl ?_); refine goesL_ (some 20) rfl rfl Try.func12 (by kernel_rfl) rfl #[.agg #[.slice A0_0 l0_0.length c0_0, .slice A0_1 l0_1.length c0_1]] rfl (by (try simp only [List.map_toArray, List.map_cons, List.map_nil]); first | done | rfl | (simp only [List.length_drop, List.length_take]; rfl)) ?_; (with_reducible refine (taliklaw03_short.calls k _ _ l0_0 _ _ l0_1 false _ ?side1 ?side2 ?side3 ?side4 A7.out).mono ?_); (case side1 => repeat (first | exact (Kd.C_below HR0_0.out HB.out) | (with_reducible refine Kd.C_alloc ?_ _) | (with_reducible refine Kd.C_drewN ?_ _) | (with_reducible refine Kd.C_drew ?_))); (case side2 => exact HC0_0.out); (case side3 => repeat (first | exact (Kd.C_below HR0_1.out HB.out) | (with_reducible refine Kd.C_alloc ?_ _) | (with_reducible refine Kd.C_drewN ?_ _) | (with_reducible refine Kd.C_drew ?_))); (case side4 => exact HC0_1.out); rintro e w37 ⟨rfl, hb⟩; refine ⟨_, rfl, ?_⟩; have n0_ := Aside0.mk (blk_below (g := gb648) (o := .cells #[.slice A0_0 l0_0.length c0_0, .slice A0_1 l0_1.length c0_1] 25 (0, 0)) (by (with_reducible repeat (first | refine blk_drewN ?_ _ | refine blk_drew ?_ | refine blk_alloc ?_ _)); exact BK648.out) hb); have n1_ := Aside0.mk (below_step (by repeat (first | (with_reducible first | exact HB.out | apply below_alloc | apply pw_below_drewN | apply below_drew1 | refine below_set ?_ GE648.out) | exact HB.out)) hb); clear BK648; clear HB; have BK648 := n0_; have HB := n1_; clear n0_ n1_; (try clear hb); (try clear hb2); (try clear hk); (try clear hi)))); go_meet; (case rel => exact ⟨_, (true), (by first | rfl | (simp; done) | (simp [*]; done)), H', ⟨by first | omega | exact Nat.le_refl _⟩, ⟨by (with_reducible repeat (first | refine blk_drewN ?_ _ | refine blk_drew ?_ | refine blk_alloc ?_ _)); exact BK648.out⟩, ⟨by repeat (first | (with_reducible first | exact HB.out | apply below_alloc | apply pw_below_drewN | apply below_drew1 | refine below_set ?_ GE648.out) | exact HB.out)⟩⟩)
 case rest => as_aux_lemma =>
  clear HC5; obtain ⟨kq, x48_4, rfl, HA, HJ4, BK648, HB⟩ := hcut
  cases kq with
  | zero => exact absurd HA.out (by simp [taliklaw03_CoolBroken.j0])
  | succ kj4 =>
   have H := HA.out; clear HA; simp only [taliklaw03_CoolBroken.j0] at H; by_cases c38 : x48_4 = true
   · subst c38; (replace H : ((taliklaw03_known.f kj4).bind fun t653 => (some t653)) = some r := by rw [if_pos rfl] at H; exact H); obtain ⟨t653, A390, H⟩ := Option.bind_eq_some_iff.mp H; replace H : (some t653) = some r := H; have A39 := Aside0.mk A390; clear A390; obtain rfl := Option.some.inj H; (go_wp2_with (first | ((with_reducible refine gate_callee (f := 14) rfl ?_); refine goesL_ (some 49) rfl rfl Try.func14 (by kernel_rfl) rfl #[] rfl (by (try simp only [List.map_toArray, List.map_cons, List.map_nil]); first | done | rfl | (simp only [List.length_drop, List.length_take]; rfl)) ?_; (with_reducible refine (taliklaw03_known.calls kj4  t653 _ A39.out).mono ?_); rintro e w40 ⟨rfl, hb⟩; refine ⟨_, rfl, ?_⟩; have n0_ := Aside0.mk (blk_below (g := gb648) (o := .cells #[.slice A0_0 l0_0.length c0_0, .slice A0_1 l0_1.length c0_1] 25 (0, 0)) (by (with_reducible repeat (first | refine blk_drewN ?_ _ | refine blk_drew ?_ | refine blk_alloc ?_ _)); exact BK648.out) hb); have n1_ := Aside0.mk (below_step (by repeat (first | (with_reducible first | exact HB.out | apply below_alloc | apply pw_below_drewN | apply below_drew1 | refine below_set ?_ GE648.out) | exact HB.out)) hb); clear BK648; clear HB; have BK648 := n0_; have HB := n1_; clear n0_ n1_; (try clear hb); (try clear hb2); (try clear hk); (try clear hi)))); go_ret; (exact ⟨by first | rfl | (simp [errW_none, errW_some] <;> rfl) | (simp [*, errW_none, errW_some] <;> rfl), by repeat (first | (with_reducible first | exact HB.out | apply below_alloc | apply pw_below_drewN | apply below_drew1 | refine below_set ?_ GE648.out) | exact HB.out)⟩)
   · replace c38 := Bool.eq_false_iff.mpr c38; subst c38; (replace H : ((cool_Break.f l0_0 l0_1 l1 a2).bind fun bt654 => (if (l3.length : Int) ≤ a2 then ((talikref03_Without.f kj4 l1 l3).bind fun t659 => (taliklaw03_CoolBroken.j1 kj4 l1 a2 l3 bt654.1 bt654.2.1 bt654.2.2 ((t659.length : Int) == (wrap64 ((l1.length : Int) - (l3.length : Int)))) l0_0 l0_1)) else (taliklaw03_CoolBroken.j1 kj4 l1 a2 l3 bt654.1 bt654.2.1 bt654.2.2 false l0_0 l0_1))) = some r := by rw [if_neg (show ¬ (false = true) by decide)] at H; exact H); obtain ⟨⟨t654, t655, t658⟩, A410, H⟩ := Option.bind_eq_some_iff.mp H; (replace H : (if (l3.length : Int) ≤ a2 then ((talikref03_Without.f kj4 l1 l3).bind fun t659 => (taliklaw03_CoolBroken.j1 kj4 l1 a2 l3 t654 t655 t658 ((t659.length : Int) == (wrap64 ((l1.length : Int) - (l3.length : Int)))) l0_0 l0_1)) else (taliklaw03_CoolBroken.j1 kj4 l1 a2 l3 t654 t655 t658 false l0_0 l0_1)) = some r := H); have A41 := Aside0.mk A410; clear A410; have HC42 := Aside0.mk H; clear H; have hcz43_0 : wc.cell? ⟨gb648, 0, none⟩ = some (.slice A0_0 l0_0.length c0_0) := (blk_cell BK648.out 0).trans rfl; have hcz43_1 : wc.cell? ⟨gb648, 1, none⟩ = some (.slice A0_1 l0_1.length c0_1) := (blk_cell BK648.out 1).trans rfl; have hfz43_0 := blk_frozen BK648.out 0; have hfz43_1 := blk_frozen BK648.out 1; (go_upto_region 4 with (first | ((with_reducible refine gate_callee (f := 38) rfl ?_); refine goesL_ (some 54) rfl rfl Try.func38 (by kernel_rfl) rfl #[.agg #[.slice A0_0 l0_0.length c0_0, .slice A0_1 l0_1.length c0_1], .slice A1 l1.length c1, .int .i64 a2] rfl (by (try simp only [List.map_toArray, List.map_cons, List.map_nil]); first | done | rfl | (simp only [List.length_drop, List.length_take]; rfl)) ?_; (with_reducible refine (cool_Break.calls _ _ l0_0 _ _ l0_1 _ _ l1 a2 t654 t655 t658 _ ?side1 ?side2 ?side3 ?side4 ?side5 ?side6 A41.out).mono ?_); (case side1 => repeat (first | exact (Kd.C_below HR0_0.out HB.out) | (with_reducible refine Kd.C_alloc ?_ _) | (with_reducible refine Kd.C_drewN ?_ _) | (with_reducible refine Kd.C_drew ?_))); (case side2 => exact HC0_0.out); (case side3 => repeat (first | exact (Kd.C_below HR0_1.out HB.out) | (with_reducible refine Kd.C_alloc ?_ _) | (with_reducible refine Kd.C_drewN ?_ _) | (with_reducible refine Kd.C_drew ?_))); (case side4 => exact HC0_1.out); (case side5 => repeat (first | exact (Kd.C_below HR1.out HB.out) | (with_reducible refine Kd.C_alloc ?_ _) | (with_reducible refine Kd.C_drewN ?_ _) | (with_reducible refine Kd.C_drew ?_))); (case side6 => exact HC1.out); rintro e w44 ⟨v656, rfl, ho0, hb⟩; refine ⟨_, rfl, ?_⟩; have n0_ := Aside0.mk (Kd.R_lower ho0 (below_size (by repeat (first | (with_reducible first | exact HB.out | apply below_alloc | apply pw_below_drewN | apply below_drew1 | refine below_set ?_ GE648.out) | exact HB.out)))); have n1_ := Aside0.mk (blk_below (g := gb648) (o := .cells #[.slice A0_0 l0_0.length c0_0, .slice A0_1 l0_1.length c0_1] 25 (0, 0)) (by (with_reducible repeat (first | refine blk_drewN ?_ _ | refine blk_drew ?_ | refine blk_alloc ?_ _)); exact BK648.out) hb); have n2_ := Aside0.mk (below_step (by repeat (first | (with_reducible first | exact HB.out | apply below_alloc | apply pw_below_drewN | apply below_drew1 | refine below_set ?_ GE648.out) | exact HB.out)) hb); clear BK648; clear HB; have HO657 := n0_; have BK648 := n1_; have HB := n2_; clear n0_ n1_ n2_; (try clear hb); (try clear hb2); (try clear hk); (try clear hi); (try clear ho0)))); ((try simp only [Act.put, List.setIfInBounds_toArray, List.set_cons_zero, List.set_cons_succ])); (go_cut [12] (fun v12 wc => ∃ (kq : Nat) (x12_41 : Bool), v12 = .bool x12_41 ∧ Aside0 (taliklaw03_CoolBroken.j1 kq l1 a2 l3 t654 t655 t658 x12_41 l0_0 l0_1 = some r) ∧ Aside0 (kq ≤ kj4) ∧ Aside0 (Kd.R (Kd.int .i64) 3 wc w.heap.size (fun _ => True) v656 t655) ∧ Aside0 (wc.heap[gb648]? = some (.cells #[(.slice A0_0 l0_0.length c0_0), (.slice A0_1 l0_1.length c0_1)] 25 (0, 0))) ∧ Aside0 (Below w.heap.size w wc)))
     case first => as_aux_lemma =>
      have H := HC42.out; clear HC42; by_cases c45 : (l3.length : Int) ≤ a2
      · rw [if_pos c45] at H; have c45b0 : decide ((l3.length : Int) ≤ a2) = true := decide_eq_true c45; clear c45; ((first | rw [c45b0] | (simp only [i64_w, i32_w]; rw [c45b0]) | skip)); obtain ⟨t659, A460, H⟩ := Option.bind_eq_some_iff.mp H; replace H : (taliklaw03_CoolBroken.j1 kj4 l1 a2 l3 t654 t655 t658 ((t659.length : Int) == (wrap64 ((l1.length : Int) - (l3.length : Int)))) l0_0 l0_1) = some r := H; have A46 := Aside0.mk A460; clear A460; have H' := Aside0.mk H; clear H; (go_wp2_with (first | (go_at_call 35; (with_reducible refine (talikref03_Without.calls kj4 _ _ l1 _ _ l3 t659 _ ?side1 ?side2 ?side3 ?side4 A46.out).mono ?_); (case side1 => repeat (first | exact (Kd.C_below HR1.out HB.out) | (with_reducible refine Kd.C_alloc ?_ _) | (with_reducible refine Kd.C_drewN ?_ _) | (with_reducible refine Kd.C_drew ?_))); (case side2 => exact HC1.out); (case side3 => repeat (first | exact (Kd.C_below HR3.out HB.out) | (with_reducible refine Kd.C_alloc ?_ _) | (with_reducible refine Kd.C_drewN ?_ _) | (with_reducible refine Kd.C_drew ?_))); (case side4 => exact HC3.out); rintro e w47 ⟨v660, rfl, ho0, hb⟩; have n0_ := Aside0.mk (Kd.R_elder' (by (with_reducible repeat (first | apply Kd.R_alloc | apply Kd.R_drewN | apply Kd.R_drew)); exact HO657.out) (Kd.R_base ho0) hb); have n1_ := Aside0.mk (Kd.R_lower (Kd.R_new' ho0 (Kd.R_lt (by (with_reducible repeat (first | apply Kd.R_alloc | apply Kd.R_drewN | apply Kd.R_drew)); exact HO657.out))) (below_size (by repeat (first | (with_reducible first | exact HB.out | apply below_alloc | apply pw_below_drewN | apply below_drew1 | refine below_set ?_ GE648.out) | exact HB.out)))); have n2_ := Aside0.mk (blk_below (g := gb648) (o := .cells #[.slice A0_0 l0_0.length c0_0, .slice A0_1 l0_1.length c0_1] 25 (0, 0)) (by (with_reducible repeat (first | refine blk_drewN ?_ _ | refine blk_drew ?_ | refine blk_alloc ?_ _)); exact BK648.out) hb); have n3_ := Aside0.mk (below_step (by repeat (first | (with_reducible first | exact HB.out | apply below_alloc | apply pw_below_drewN | apply below_drew1 | refine below_set ?_ GE648.out) | exact HB.out)) hb); clear HO657; clear BK648; clear HB; have HO657 := n0_; have HO661 := n1_; have BK648 := n2_; have HB := n3_; clear n0_ n1_ n2_ n3_; (try clear hb); (try clear hb2); (try clear hk); (try clear hi); (try clear ho0); obtain ⟨Ao48, co48, eo48⟩ := Kd.R_slice HO661.out; subst eo48))); go_meet; (case rel => exact ⟨_, (((t659.length : Int) == (wrap64 ((l1.length : Int) - (l3.length : Int))))), (by first | rfl | (simp; done) | (simp [*]; done)), H', ⟨by have := HJ4.out; first | omega | exact Nat.le_refl _⟩, ⟨by (with_reducible repeat (first | apply Kd.R_alloc | apply Kd.R_drewN | apply Kd.R_drew)); exact Kd.R_mono HO657.out (fun _ hk => trivial)⟩, ⟨by (with_reducible repeat (first | refine blk_drewN ?_ _ | refine blk_drew ?_ | refine blk_alloc ?_ _)); exact BK648.out⟩, ⟨by repeat (first | (with_reducible first | exact HB.out | apply below_alloc | apply pw_below_drewN | apply below_drew1 | refine below_set ?_ GE648.out) | exact HB.out)⟩⟩)
      · rw [if_neg c45] at H; have c45b0 : decide ((l3.length : Int) ≤ a2) = false := decide_eq_false c45; clear c45; ((first | rw [c45b0] | (simp only [i64_w, i32_w]; rw [c45b0]) | skip)); have H' := Aside0.mk H; clear H; go_wp2; go_meet; (case rel => exact ⟨_, (false), (by first | rfl | (simp; done) | (simp [*]; done)), H', ⟨by have := HJ4.out; first | omega | exact Nat.le_refl _⟩, ⟨by (with_reducible repeat (first | apply Kd.R_alloc | apply Kd.R_drewN | apply Kd.R_drew)); exact HO657.out⟩, ⟨by (with_reducible repeat (first | refine blk_drewN ?_ _ | refine blk_drew ?_ | refine blk_alloc ?_ _)); exact BK648.out⟩, ⟨by repeat (first | (with_reducible first | exact HB.out | apply below_alloc | apply pw_below_drewN | apply below_drew1 | refine below_set ?_ GE648.out) | exact HB.out)⟩⟩)
     case rest => as_aux_lemma =>
      clear HC42; (try clear c1); (try clear c38); (try clear hcz43_0); (try clear hcz43_1); (try clear hfz43_0); (try clear hfz43_1); obtain ⟨kq, x12_41, rfl, HA, HJ41, HO_10, BK648, HB⟩ := hcut
      cases kq with
      | zero => exact absurd HA.out (by simp [taliklaw03_CoolBroken.j1])
      | succ kj41 =>
       have H := HA.out; clear HA; simp only [taliklaw03_CoolBroken.j1] at H; obtain ⟨t662, A490, H⟩ := Option.bind_eq_some_iff.mp H; (replace H : ((talikref03_Worst.f kj41 l0_0 l0_1).bind fun bt665 => ((cool_Play.f kj41 l0_0 l0_1 t662 bt665.1 bt665.2).bind fun bt671 => (if bt671.2 = 0 then (taliklaw03_CoolBroken.j2 kj41 l1 a2 l3 t654 t655 t658 x12_41 bt671.1 ((bt671.1.length : Int) != (l0_0.length : Int)) l0_0 l0_1) else (taliklaw03_CoolBroken.j2 kj41 l1 a2 l3 t654 t655 t658 x12_41 bt671.1 true l0_0 l0_1)))) = some r := H); have A49 := Aside0.mk A490; clear A490; obtain ⟨⟨t665, t668⟩, A500, H⟩ := Option.bind_eq_some_iff.mp H; (replace H : ((cool_Play.f kj41 l0_0 l0_1 t662 t665 t668).bind fun bt671 => (if bt671.2 = 0 then (taliklaw03_CoolBroken.j2 kj41 l1 a2 l3 t654 t655 t658 x12_41 bt671.1 ((bt671.1.length : Int) != (l0_0.length : Int)) l0_0 l0_1) else (taliklaw03_CoolBroken.j2 kj41 l1 a2 l3 t654 t655 t658 x12_41 bt671.1 true l0_0 l0_1))) = some r := H); have A50 := Aside0.mk A500; clear A500; obtain ⟨⟨t671, t674⟩, A510, H⟩ := Option.bind_eq_some_iff.mp H; (replace H : (if t674 = 0 then (taliklaw03_CoolBroken.j2 kj41 l1 a2 l3 t654 t655 t658 x12_41 t671 ((t671.length : Int) != (l0_0.length : Int)) l0_0 l0_1) else (taliklaw03_CoolBroken.j2 kj41 l1 a2 l3 t654 t655 t658 x12_41 t671 true l0_0 l0_1)) = some r := H); have A51 := Aside0.mk A510; clear A510; have HC52 := Aside0.mk H; clear H; (try go_wp2); have n0_ := Aside0.mk (Kd.R_drew HO_10.out); have n1_ := Aside0.mk (blk_drew BK648.out); have n2_ := Aside0.mk (below_drew1 HB.out); clear HO_10; clear BK648; clear HB; have HO_10 := n0_; have BK648 := n1_; have HB := n2_; clear n0_ n1_ n2_; (refine start_ (n := 12) (S := fun w' => w'.cell? ⟨gb648, 0, none⟩ = some (.slice A0_0 l0_0.length c0_0) ∧ w'.cell? ⟨gb648, 1, none⟩ = some (.slice A0_1 l0_1.length c0_1)) (ds := []) #[false, false, false, false, false, false, false, false, false, false, false, false] (by kernel_rfl) rfl rfl ⟨(blk_cell BK648.out 0).trans rfl, (blk_cell BK648.out 1).trans rfl⟩ (fun hHeld => ?_); refine with_tabW taliklaw03_CoolBroken.tab5 taliklaw03_CoolBroken.bits5 (fun HT_ HW_ => ?_)); generalize wc.drew = w53 at HO_10 BK648 HB hHeld ⊢; (refine pure_ (i := 1) (N := some 76) (v := ?_) (a' := ?_) #[false, true, false, false, false, false, false, false, false, false, false, false] rfl rfl (any_of HT_.out (by kernel_rfl)) (fun _ _ _ h => h) (Or.inl ⟨by rfl, ?_⟩) ?_ ?_); rotate_left
       · intro w'; go_simp; (with_reducible rfl)
       rotate_left
       · simp only [Act.put, List.setIfInBounds_toArray, List.set_cons_zero, List.set_cons_succ, i64_w, i32_w]; rfl
       (refine pure_ (i := 2) (N := some 77) (v := ?_) (a' := ?_) #[false, true, true, false, false, false, false, false, false, false, false, false] rfl rfl (any_of HT_.out (by kernel_rfl)) (fun _ _ _ h => h) (Or.inl ⟨by rfl, ?_⟩) ?_ ?_); rotate_left
       · intro w'; go_simp; (with_reducible rfl)
       rotate_left
       · simp only [Act.put, List.setIfInBounds_toArray, List.set_cons_zero, List.set_cons_succ, i64_w, i32_w]; rfl
       (refine take_ (i := 0) (N := some 75) (v := ?_) (a' := ?_) #[true, true, true, false, false, false, false, false, false, false, false, false] rfl rfl (take_ofW HT_.out HW_.out (by kernel_rfl)) (fun _ _ _ h => h) (Or.inl ⟨by rfl, ?_⟩) hHeld ?_ ?_); rotate_left
       · rintro w' ⟨s0, s1⟩; go_simp; (with_reducible rfl)
       rotate_left
       · simp only [Act.put, List.setIfInBounds_toArray, List.set_cons_zero, List.set_cons_succ, i64_w, i32_w]; rfl
       (refine take_ (i := 4) (N := some 79) (v := ?_) (a' := ?_) #[true, true, true, false, true, false, false, false, false, false, false, false] rfl rfl (take_ofW HT_.out HW_.out (by kernel_rfl)) (fun _ _ _ h => h) (Or.inl ⟨by rfl, ?_⟩) hHeld ?_ ?_); rotate_left
       · rintro w' ⟨s0, s1⟩; go_simp; (with_reducible rfl)
       rotate_left
       · simp only [Act.put, List.setIfInBounds_toArray, List.set_cons_zero, List.set_cons_succ, i64_w, i32_w]; rfl
       (refine one_ (i := 3) (N := some 78) #[true, true, true, true, true, false, false, false, false, false, false, false] rfl rfl (one_of HT_.out (by kernel_rfl)) (by decide) (fun K hK => ?_)); (refine goes_ Try.func35 (by kernel_rfl) rfl #[.slice A1 l1.length c1, .slice A3 l3.length c3] (by rfl) rfl rfl (by (try simp only [List.map_toArray, List.map_cons, List.map_nil]); first | done | rfl | (simp only [List.length_drop, List.length_take]; rfl)) ?_); (with_reducible refine (talikref03_Without.calls kj41 _ _ l1 _ _ l3 t662 _ ?side1 ?side2 ?side3 ?side4 A49.out).mono ?_); ((case side1 => repeat (first | exact (Kd.C_below HR1.out HB.out) | (with_reducible refine Kd.C_alloc ?_ _) | (with_reducible refine Kd.C_drewN ?_ _) | (with_reducible refine Kd.C_drew ?_)))); ((case side2 => exact HC1.out)); ((case side3 => repeat (first | exact (Kd.C_below HR3.out HB.out) | (with_reducible refine Kd.C_alloc ?_ _) | (with_reducible refine Kd.C_drewN ?_ _) | (with_reducible refine Kd.C_drew ?_)))); ((case side4 => exact HC3.out)); rintro e w54 ⟨v663, rfl, ho0, hb⟩; refine ⟨_, rfl, ?_⟩; (have n0_ := Aside0.mk (Kd.R_elder' (by (with_reducible repeat (first | apply Kd.R_alloc | apply Kd.R_drewN | apply Kd.R_drew)); exact HO_10.out) (Kd.R_base ho0) hb)); (have n1_ := Aside0.mk (Kd.R_lower (Kd.R_new' ho0 (Kd.R_lt (by (with_reducible repeat (first | apply Kd.R_alloc | apply Kd.R_drewN | apply Kd.R_drew)); exact HO_10.out))) (below_size (by repeat (first | (with_reducible first | exact HB.out | apply below_alloc | apply pw_below_drewN | apply below_drew1 | refine below_set ?_ GE648.out) | exact HB.out))))); (have n2_ := Aside0.mk (blk_below (g := gb648) (o := .cells #[.slice A0_0 l0_0.length c0_0, .slice A0_1 l0_1.length c0_1] 25 (0, 0)) (by (with_reducible repeat (first | refine blk_drewN ?_ _ | refine blk_drew ?_ | refine blk_alloc ?_ _)); exact BK648.out) hb)); (have n3_ := Aside0.mk (below_step (by repeat (first | (with_reducible first | exact HB.out | apply below_alloc | apply pw_below_drewN | apply below_drew1 | refine below_set ?_ GE648.out) | exact HB.out)) hb)); clear HO_10; clear BK648; clear HB; have HO_10 := n0_; have HO664 := n1_; have BK648 := n2_; have HB := n3_; clear n0_ n1_ n2_ n3_; ((try clear hb)); ((try clear hb2)); ((try clear hk)); ((try clear hi)); ((try clear ho0)); (refine hK.out _ _ ⟨(blk_cell BK648.out 0).trans rfl, (blk_cell BK648.out 1).trans rfl⟩ (fun hHeld => ?_)); clear hK K; refine norm_ (a' := ?_) ?_ ?_; rotate_left
       · (show Act.put _ (some 78) _ = _); simp only [Act.put, List.setIfInBounds_toArray, List.set_cons_zero, List.set_cons_succ, i64_w, i32_w]; rfl
       (refine one_ (i := 5) (N := some 80) #[true, true, true, true, true, true, false, false, false, false, false, false] rfl rfl (one_of HT_.out (by kernel_rfl)) (by decide) (fun K hK => ?_)); (refine goes_ Try.func43 (by kernel_rfl) rfl #[.agg #[.slice A0_0 l0_0.length c0_0, .slice A0_1 l0_1.length c0_1]] (by rfl) rfl rfl (by (try simp only [List.map_toArray, List.map_cons, List.map_nil]); first | done | rfl | (simp only [List.length_drop, List.length_take]; rfl)) ?_); (with_reducible refine (talikref03_Worst.calls kj41 _ _ l0_0 _ _ l0_1 t665 t668 _ ?side1 ?side2 ?side3 ?side4 A50.out).mono ?_); ((case side1 => repeat (first | exact (Kd.C_below HR0_0.out HB.out) | (with_reducible refine Kd.C_alloc ?_ _) | (with_reducible refine Kd.C_drewN ?_ _) | (with_reducible refine Kd.C_drew ?_)))); ((case side2 => exact HC0_0.out)); ((case side3 => repeat (first | exact (Kd.C_below HR0_1.out HB.out) | (with_reducible refine Kd.C_alloc ?_ _) | (with_reducible refine Kd.C_drewN ?_ _) | (with_reducible refine Kd.C_drew ?_)))); ((case side4 => exact HC0_1.out)); rintro e w55 ⟨v666, v669, rfl, ho0, ho1, hb⟩; refine ⟨_, rfl, ?_⟩; (have n0_ := Aside0.mk (Kd.R_elder' (by (with_reducible repeat (first | apply Kd.R_alloc | apply Kd.R_drewN | apply Kd.R_drew)); exact HO_10.out) (Kd.R_base ho0) hb)); (have n1_ := Aside0.mk (Kd.R_elder' (by (with_reducible repeat (first | apply Kd.R_alloc | apply Kd.R_drewN | apply Kd.R_drew)); exact HO664.out) (Kd.R_base ho0) hb)); (have n2_ := Aside0.mk (Kd.R_lower (Kd.R_new' (Kd.R_new' ho0 (Kd.R_lt (by (with_reducible repeat (first | apply Kd.R_alloc | apply Kd.R_drewN | apply Kd.R_drew)); exact HO_10.out))) (Kd.R_lt (by (with_reducible repeat (first | apply Kd.R_alloc | apply Kd.R_drewN | apply Kd.R_drew)); exact HO664.out))) (below_size (by repeat (first | (with_reducible first | exact HB.out | apply below_alloc | apply pw_below_drewN | apply below_drew1 | refine below_set ?_ GE648.out) | exact HB.out))))); (have n3_ := Aside0.mk (Kd.S_lower (Kd.S_new' (Kd.S_new' ho1 (Kd.R_lt (by (with_reducible repeat (first | apply Kd.R_alloc | apply Kd.R_drewN | apply Kd.R_drew)); exact HO_10.out))) (Kd.R_lt (by (with_reducible repeat (first | apply Kd.R_alloc | apply Kd.R_drewN | apply Kd.R_drew)); exact HO664.out))) (below_size (by repeat (first | (with_reducible first | exact HB.out | apply below_alloc | apply pw_below_drewN | apply below_drew1 | refine below_set ?_ GE648.out) | exact HB.out))))); (have n4_ := Aside0.mk (blk_below (g := gb648) (o := .cells #[.slice A0_0 l0_0.length c0_0, .slice A0_1 l0_1.length c0_1] 25 (0, 0)) (by (with_reducible repeat (first | refine blk_drewN ?_ _ | refine blk_drew ?_ | refine blk_alloc ?_ _)); exact BK648.out) hb)); (have n5_ := Aside0.mk (below_step (by repeat (first | (with_reducible first | exact HB.out | apply below_alloc | apply pw_below_drewN | apply below_drew1 | refine below_set ?_ GE648.out) | exact HB.out)) hb)); clear HO_10; clear HO664; clear BK648; clear HB; have HO_10 := n0_; have HO664 := n1_; have HO667 := n2_; have HO670 := n3_; have BK648 := n4_; have HB := n5_; clear n0_ n1_ n2_ n3_ n4_ n5_; ((try clear hb)); ((try clear hb2)); ((try clear hk)); ((try clear hi)); ((try clear ho0)); ((try clear ho1)); obtain ⟨Ao56, co56, eo56⟩ := Kd.R_slice HO664.out; ((first | subst eo56 | (injection eo56 with f1_ f2_ f3_; have f4_ := f1_.symm; have f5_ := f3_.symm; clear f1_ f2_ f3_; subst f4_; subst f5_))); obtain ⟨Ao57, co57, eo57⟩ := Kd.R_slice HO667.out; ((first | subst eo57 | (injection eo57 with f1_ f2_ f3_; have f4_ := f1_.symm; have f5_ := f3_.symm; clear f1_ f2_ f3_; subst f4_; subst f5_))); obtain ⟨Ao58, co58, eo58⟩ := Kd.S_slice HO670.out; ((first | subst eo58 | (injection eo58 with f1_ f2_ f3_; have f4_ := f1_.symm; have f5_ := f3_.symm; clear f1_ f2_ f3_; subst f4_; subst f5_))); (refine hK.out _ _ ⟨(blk_cell BK648.out 0).trans rfl, (blk_cell BK648.out 1).trans rfl⟩ (fun hHeld => ?_)); clear hK K; refine norm_ (a' := ?_) ?_ ?_; rotate_left
       · (show Act.put _ (some 80) _ = _); simp only [Act.put, List.setIfInBounds_toArray, List.set_cons_zero, List.set_cons_succ, i64_w, i32_w]; rfl
       (refine one_ (i := 6) (N := some 81) #[true, true, true, true, true, true, true, false, false, false, false, false] rfl rfl (one_of HT_.out (by kernel_rfl)) (by decide) (fun K hK => ?_)); (refine goes_ Try.func42 (by kernel_rfl) rfl #[.agg #[.slice A0_0 l0_0.length c0_0, .slice A0_1 l0_1.length c0_1], .slice Ao56 t662.length co56, .agg #[.slice Ao57 t665.length co57, .slice Ao58 t668.length co58]] (by rfl) rfl rfl (by (try simp only [List.map_toArray, List.map_cons, List.map_nil]); first | done | rfl | (simp only [List.length_drop, List.length_take]; rfl)) ?_); (with_reducible refine (cool_Play.calls kj41 _ _ l0_0 _ _ l0_1 _ _ t662 _ _ t665 _ _ t668 t671 t674 _ ?side1 ?side2 ?side3 ?side4 ?side5 ?side6 ?side7 ?side8 ?side9 ?side10 A51.out).mono ?_); ((case side1 => repeat (first | exact (Kd.C_below HR0_0.out HB.out) | (with_reducible refine Kd.C_alloc ?_ _) | (with_reducible refine Kd.C_drewN ?_ _) | (with_reducible refine Kd.C_drew ?_)))); ((case side2 => exact HC0_0.out)); ((case side3 => repeat (first | exact (Kd.C_below HR0_1.out HB.out) | (with_reducible refine Kd.C_alloc ?_ _) | (with_reducible refine Kd.C_drewN ?_ _) | (with_reducible refine Kd.C_drew ?_)))); ((case side4 => exact HC0_1.out)); ((case side5 => repeat (first | exact (Kd.R_reads' HO664.out).2.2 | (with_reducible refine Kd.C_alloc ?_ _) | (with_reducible refine Kd.C_drewN ?_ _) | (with_reducible refine Kd.C_drew ?_)))); ((case side6 => exact (Kd.R_reads' HO664.out).2.1)); ((case side7 => repeat (first | exact (Kd.R_reads' HO667.out).2.2 | (with_reducible refine Kd.C_alloc ?_ _) | (with_reducible refine Kd.C_drewN ?_ _) | (with_reducible refine Kd.C_drew ?_)))); ((case side8 => exact (Kd.R_reads' HO667.out).2.1)); ((case side9 => repeat (first | exact (Kd.S_reads' HO670.out).2.2 | (with_reducible refine Kd.C_alloc ?_ _) | (with_reducible refine Kd.C_drewN ?_ _) | (with_reducible refine Kd.C_drew ?_)))); ((case side10 => exact (Kd.S_reads' HO670.out).2.1)); rintro e w59 ⟨v672, rfl, ho0, hb⟩; refine ⟨_, rfl, ?_⟩; (have n0_ := Aside0.mk (Kd.R_elder' (by (with_reducible repeat (first | apply Kd.R_alloc | apply Kd.R_drewN | apply Kd.R_drew)); exact HO_10.out) (Kd.R_base ho0) hb)); (have n1_ := Aside0.mk (Kd.R_elder' (by (with_reducible repeat (first | apply Kd.R_alloc | apply Kd.R_drewN | apply Kd.R_drew)); exact HO664.out) (Kd.R_base ho0) hb)); (have n2_ := Aside0.mk (Kd.R_elder' (by (with_reducible repeat (first | apply Kd.R_alloc | apply Kd.R_drewN | apply Kd.R_drew)); exact HO667.out) (Kd.R_base ho0) hb)); (have n3_ := Aside0.mk (Kd.S_elder' (by (with_reducible repeat (first | apply Kd.S_alloc | apply Kd.S_drewN | apply Kd.S_drew)); exact HO670.out) (Kd.R_base ho0) hb)); (have n4_ := Aside0.mk (Kd.R_lower (Kd.R_new' (Kd.R_new' (Kd.R_new' ho0 (Kd.R_lt (by (with_reducible repeat (first | apply Kd.R_alloc | apply Kd.R_drewN | apply Kd.R_drew)); exact HO_10.out))) (Kd.R_lt (by (with_reducible repeat (first | apply Kd.R_alloc | apply Kd.R_drewN | apply Kd.R_drew)); exact HO664.out))) (Kd.R_lt (by (with_reducible repeat (first | apply Kd.R_alloc | apply Kd.R_drewN | apply Kd.R_drew)); exact HO667.out))) (below_size (by repeat (first | (with_reducible first | exact HB.out | apply below_alloc | apply pw_below_drewN | apply below_drew1 | refine below_set ?_ GE648.out) | exact HB.out))))); (have n5_ := Aside0.mk (blk_below (g := gb648) (o := .cells #[.slice A0_0 l0_0.length c0_0, .slice A0_1 l0_1.length c0_1] 25 (0, 0)) (by (with_reducible repeat (first | refine blk_drewN ?_ _ | refine blk_drew ?_ | refine blk_alloc ?_ _)); exact BK648.out) hb)); (have n6_ := Aside0.mk (below_step (by repeat (first | (with_reducible first | exact HB.out | apply below_alloc | apply pw_below_drewN | apply below_drew1 | refine below_set ?_ GE648.out) | exact HB.out)) hb)); clear HO_10; clear HO664; clear HO667; clear HO670; clear BK648; clear HB; have HO_10 := n0_; have HO664 := n1_; have HO667 := n2_; have HO670 := n3_; have HO673 := n4_; have BK648 := n5_; have HB := n6_; clear n0_ n1_ n2_ n3_ n4_ n5_ n6_; ((try clear hb)); ((try clear hb2)); ((try clear hk)); ((try clear hi)); ((try clear ho0)); (refine hK.out _ _ ⟨(blk_cell BK648.out 0).trans rfl, (blk_cell BK648.out 1).trans rfl⟩ (fun hHeld => ?_)); clear hK K; refine norm_ (a' := ?_) ?_ ?_; rotate_left
       · (show Act.put _ (some 81) _ = _); simp only [Act.put, List.setIfInBounds_toArray, List.set_cons_zero, List.set_cons_succ, i64_w, i32_w]; rfl
       (refine pure_ (i := 7) (N := some 74) (v := ?_) (a' := ?_) #[true, true, true, true, true, true, true, true, false, false, false, false] rfl rfl (any_of HT_.out (by kernel_rfl)) (fun _ _ _ h => h) (Or.inl ⟨by rfl, ?_⟩) ?_ ?_); rotate_left
       · intro w'; go_simp; (with_reducible rfl)
       rotate_left
       · simp only [Act.put, List.setIfInBounds_toArray, List.set_cons_zero, List.set_cons_succ, i64_w, i32_w]; rfl
       (refine pure_ (i := 8) (N := some 82) (v := ?_) (a' := ?_) #[true, true, true, true, true, true, true, true, true, false, false, false] rfl rfl (any_of HT_.out (by kernel_rfl)) (fun _ _ _ h => h) (Or.inl ⟨by rfl, ?_⟩) ?_ ?_); rotate_left
       · intro w'; go_simp; (with_reducible rfl)
       rotate_left
       · simp only [Act.put, List.setIfInBounds_toArray, List.set_cons_zero, List.set_cons_succ, i64_w, i32_w]; rfl
       (refine pure_ (i := 9) (N := some 83) (v := ?_) (a' := ?_) #[true, true, true, true, true, true, true, true, true, true, false, false] rfl rfl (any_of HT_.out (by kernel_rfl)) (fun _ _ _ h => h) (Or.inl ⟨by rfl, ?_⟩) ?_ ?_); rotate_left
       · intro w'; go_simp; (with_reducible rfl)
       rotate_left
       · simp only [Act.put, List.setIfInBounds_toArray, List.set_cons_zero, List.set_cons_succ, i64_w, i32_w]; rfl
       (refine pure_ (i := 10) (N := some 13) (v := ?_) (a' := ?_) #[true, true, true, true, true, true, true, true, true, true, true, false] rfl rfl (any_of HT_.out (by kernel_rfl)) (fun _ _ _ h => h) (Or.inl ⟨by rfl, ?_⟩) ?_ ?_); rotate_left
       · intro w'; go_simp; (with_reducible rfl)
       rotate_left
       · simp only [Act.put, List.setIfInBounds_toArray, List.set_cons_zero, List.set_cons_succ, i64_w, i32_w]; rfl
       (refine pure_ (i := 11) (N := some 14) (v := ?_) (a' := ?_) #[true, true, true, true, true, true, true, true, true, true, true, true] rfl rfl (any_of HT_.out (by kernel_rfl)) (fun _ _ _ h => h) (Or.inl ⟨by rfl, ?_⟩) ?_ ?_); rotate_left
       · intro w'; go_simp; (with_reducible rfl)
       rotate_left
       · simp only [Act.put, List.setIfInBounds_toArray, List.set_cons_zero, List.set_cons_succ, i64_w, i32_w]; rfl
       (refine done_ (done_of HT_.out (by kernel_rfl)) ?_); (go_upto_region 6 with (fail)); (go_cut [93] (fun v93 wc => ∃ (kq : Nat) (x93_51 : Bool), v93 = .bool x93_51 ∧ Aside0 (taliklaw03_CoolBroken.j2 kq l1 a2 l3 t654 t655 t658 x12_41 t671 x93_51 l0_0 l0_1 = some r) ∧ Aside0 (kq ≤ kj41) ∧ Aside0 (Kd.R (Kd.int .i64) 3 wc w.heap.size (fun k_ => some k_ ≠ (v672 : Value).ownBlock) v656 t655) ∧ Aside0 (Kd.R (Kd.int .i64) 3 wc w.heap.size (fun k_ => some k_ ≠ (v656 : Value).ownBlock) v672 t671) ∧ Aside0 (wc.heap[gb648]? = some (.cells #[(.slice A0_0 l0_0.length c0_0), (.slice A0_1 l0_1.length c0_1)] 25 (0, 0))) ∧ Aside0 (Below w.heap.size w wc)))
       case first => as_aux_lemma =>
        have H := HC52.out; clear HC52; by_cases c60 : t674 = 0
        · rw [if_pos c60] at H; have c60b0 : (t674 == 0) = true := beq_iff_eq.mpr c60; have c60b1 : (t674 != 0) = false := bne_eq_false_iff_eq.mpr c60; clear c60; ((first | rw [c60b0] | (simp only [i64_w, i32_w]; rw [c60b0]) | skip)); have H' := Aside0.mk H; clear H; obtain ⟨Ao61, co61, eo61⟩ := Kd.R_slice HO673.out; subst eo61; have hcz62_0 : w59.cell? ⟨gb648, 0, none⟩ = some (.slice A0_0 l0_0.length c0_0) := (blk_cell BK648.out 0).trans rfl; have hcz62_1 : w59.cell? ⟨gb648, 1, none⟩ = some (.slice A0_1 l0_1.length c0_1) := (blk_cell BK648.out 1).trans rfl; have hfz62_0 := blk_frozen BK648.out 0; have hfz62_1 := blk_frozen BK648.out 1; go_wp2; go_meet; (case rel => exact ⟨_, (((t671.length : Int) != (l0_0.length : Int))), (by first | rfl | (simp; done) | (simp [*]; done)), H', ⟨by have := HJ4.out; have := HJ41.out; first | omega | exact Nat.le_refl _⟩, ⟨by (with_reducible repeat (first | apply Kd.R_alloc | apply Kd.R_drewN | apply Kd.R_drew)); exact Kd.R_mono HO_10.out (fun _ hk => hk.2)⟩, ⟨by (with_reducible repeat (first | apply Kd.R_alloc | apply Kd.R_drewN | apply Kd.R_drew)); exact Kd.R_mono HO673.out (fun _ hk => hk.1.1.2)⟩, ⟨by (with_reducible repeat (first | refine blk_drewN ?_ _ | refine blk_drew ?_ | refine blk_alloc ?_ _)); exact BK648.out⟩, ⟨by repeat (first | (with_reducible first | exact HB.out | apply below_alloc | apply pw_below_drewN | apply below_drew1 | refine below_set ?_ GE648.out) | exact HB.out)⟩⟩)
        · rw [if_neg c60] at H; have c60b0 : (t674 == 0) = false := beq_eq_false_iff_ne.mpr c60; have c60b1 : (t674 != 0) = true := bne_iff_ne.mpr c60; ((first | rw [c60b0] | (simp only [i64_w, i32_w]; rw [c60b0]) | skip)); have H' := Aside0.mk H; clear H; go_wp2; go_meet; (case rel => exact ⟨_, (true), (by first | rfl | (simp; done) | (simp [*]; done)), H', ⟨by have := HJ4.out; have := HJ41.out; first | omega | exact Nat.le_refl _⟩, ⟨by (with_reducible repeat (first | apply Kd.R_alloc | apply Kd.R_drewN | apply Kd.R_drew)); exact Kd.R_mono HO_10.out (fun _ hk => hk.2)⟩, ⟨by (with_reducible repeat (first | apply Kd.R_alloc | apply Kd.R_drewN | apply Kd.R_drew)); exact Kd.R_mono HO673.out (fun _ hk => hk.1.1.2)⟩, ⟨by (with_reducible repeat (first | refine blk_drewN ?_ _ | refine blk_drew ?_ | refine blk_alloc ?_ _)); exact BK648.out⟩, ⟨by repeat (first | (with_reducible first | exact HB.out | apply below_alloc | apply pw_below_drewN | apply below_drew1 | refine below_set ?_ GE648.out) | exact HB.out)⟩⟩)
       case rest => as_aux_lemma =>
        clear HC52; (try clear c1); (try clear c3); (try clear c38); (try clear hcz43_0); (try clear hcz43_1); (try clear hfz43_0); (try clear hfz43_1); obtain ⟨kq, x93_51, rfl, HA, HJ51, HO_10, HO_13, BK648, HB⟩ := hcut
        cases kq with
        | zero => exact absurd HA.out (by simp [taliklaw03_CoolBroken.j2])
        | succ kj51 =>
         have H := HA.out; clear HA; simp only [taliklaw03_CoolBroken.j2] at H; by_cases c63 : x93_51 = true
         · subst c63; (replace H : (some false) = some r := by rw [if_pos rfl] at H; exact H); obtain rfl := Option.some.inj H; go_wp2; go_ret; (exact ⟨by first | rfl | (simp [errW_none, errW_some] <;> rfl) | (simp [*, errW_none, errW_some] <;> rfl), by repeat (first | (with_reducible first | exact HB.out | apply below_alloc | apply pw_below_drewN | apply below_drew1 | refine below_set ?_ GE648.out) | exact HB.out)⟩)
         · replace c63 := Bool.eq_false_iff.mpr c63; subst c63; (replace H : (if t658 = 0 then (if t654 < 0 then (taliklaw03_CoolBroken.j4 kj51 l1 l3 t654 t655 x12_41 t671 true l0_0 l0_1) else (if t654 ≥ (l0_0.length : Int) then (taliklaw03_CoolBroken.j4 kj51 l1 l3 t654 t655 x12_41 t671 true l0_0 l0_1) else (if (t655.length : Int) > a2 then (taliklaw03_CoolBroken.j4 kj51 l1 l3 t654 t655 x12_41 t671 true l0_0 l0_1) else ((talikref03_Coolers.f kj51 l0_0 l0_1 t655).bind fun t677 => (if t677 = true then ((talikref03_Without.f kj51 l1 t655).bind fun t678 => (taliklaw03_CoolBroken.j4 kj51 l1 l3 t654 t655 x12_41 t671 ((t678.length : Int) != (wrap64 ((l1.length : Int) - (t655.length : Int)))) l0_0 l0_1)) else (taliklaw03_CoolBroken.j4 kj51 l1 l3 t654 t655 x12_41 t671 true l0_0 l0_1)))))) else (taliklaw03_CoolBroken.l0 kj51 t658 x12_41 t671 0)) = some r := by rw [if_neg (show ¬ (false = true) by decide)] at H; exact H); by_cases c64 : t658 = 0
           · rw [if_pos c64] at H; have c64b0 : (t658 == 0) = true := beq_iff_eq.mpr c64; have c64b1 : (t658 != 0) = false := bne_eq_false_iff_eq.mpr c64; clear c64; have HC65 := Aside0.mk H; clear H; (go_upto_region 15 with (fail)); (go_cut [147] (fun v147 wc => ∃ (kq : Nat) (x147_64 : Bool), v147 = .bool x147_64 ∧ Aside0 (taliklaw03_CoolBroken.j4 kq l1 l3 t654 t655 x12_41 t671 x147_64 l0_0 l0_1 = some r) ∧ Aside0 (kq ≤ kj51) ∧ Aside0 (Kd.R (Kd.int .i64) 3 wc w.heap.size (fun k_ => some k_ ≠ (v672 : Value).ownBlock) v656 t655) ∧ Aside0 (Kd.R (Kd.int .i64) 3 wc w.heap.size (fun k_ => some k_ ≠ (v656 : Value).ownBlock) v672 t671) ∧ Aside0 (wc.heap[gb648]? = some (.cells #[(.slice A0_0 l0_0.length c0_0), (.slice A0_1 l0_1.length c0_1)] 25 (0, 0))) ∧ Aside0 (Below w.heap.size w wc)))
             case first => as_aux_lemma =>
              have H := HC65.out; clear HC65; by_cases c66 : t654 < 0
              · rw [if_pos c66] at H; have c66b0 : decide (t654 < 0) = true := decide_eq_true c66; clear c66; ((first | rw [c66b0] | (simp only [i64_w, i32_w]; rw [c66b0]) | skip)); have H' := Aside0.mk H; clear H; go_wp2; go_meet; (case rel => exact ⟨_, (true), (by first | rfl | (simp; done) | (simp [*]; done)), H', ⟨by have := HJ4.out; have := HJ41.out; have := HJ51.out; first | omega | exact Nat.le_refl _⟩, ⟨by (with_reducible repeat (first | apply Kd.R_alloc | apply Kd.R_drewN | apply Kd.R_drew)); exact HO_10.out⟩, ⟨by (with_reducible repeat (first | apply Kd.R_alloc | apply Kd.R_drewN | apply Kd.R_drew)); exact HO_13.out⟩, ⟨by (with_reducible repeat (first | refine blk_drewN ?_ _ | refine blk_drew ?_ | refine blk_alloc ?_ _)); exact BK648.out⟩, ⟨by repeat (first | (with_reducible first | exact HB.out | apply below_alloc | apply pw_below_drewN | apply below_drew1 | refine below_set ?_ GE648.out) | exact HB.out)⟩⟩)
              · rw [if_neg c66] at H; have c66b0 : decide (t654 < 0) = false := decide_eq_false c66; clear c66; ((first | rw [c66b0] | (simp only [i64_w, i32_w]; rw [c66b0]) | skip)); by_cases c67 : t654 ≥ (l0_0.length : Int)
                · rw [if_pos c67] at H; have c67b0 : decide ((l0_0.length : Int) ≤ t654) = true := decide_eq_true c67; clear c67; have H' := Aside0.mk H; clear H; have hcz68_0 : wc.cell? ⟨gb648, 0, none⟩ = some (.slice A0_0 l0_0.length c0_0) := (blk_cell BK648.out 0).trans rfl; have hcz68_1 : wc.cell? ⟨gb648, 1, none⟩ = some (.slice A0_1 l0_1.length c0_1) := (blk_cell BK648.out 1).trans rfl; have hfz68_0 := blk_frozen BK648.out 0; have hfz68_1 := blk_frozen BK648.out 1; go_wp2; go_meet; (case rel => exact ⟨_, (true), (by first | rfl | (simp; done) | (simp [*]; done)), H', ⟨by have := HJ4.out; have := HJ41.out; have := HJ51.out; first | omega | exact Nat.le_refl _⟩, ⟨by (with_reducible repeat (first | apply Kd.R_alloc | apply Kd.R_drewN | apply Kd.R_drew)); exact HO_10.out⟩, ⟨by (with_reducible repeat (first | apply Kd.R_alloc | apply Kd.R_drewN | apply Kd.R_drew)); exact HO_13.out⟩, ⟨by (with_reducible repeat (first | refine blk_drewN ?_ _ | refine blk_drew ?_ | refine blk_alloc ?_ _)); exact BK648.out⟩, ⟨by repeat (first | (with_reducible first | exact HB.out | apply below_alloc | apply pw_below_drewN | apply below_drew1 | refine below_set ?_ GE648.out) | exact HB.out)⟩⟩)
                · rw [if_neg c67] at H; have c67b0 : decide ((l0_0.length : Int) ≤ t654) = false := decide_eq_false c67; clear c67; by_cases c69 : (t655.length : Int) > a2
                  · rw [if_pos c69] at H; have c69b0 : decide (a2 < (t655.length : Int)) = true := decide_eq_true c69; clear c69; have H' := Aside0.mk H; clear H; have hcz70_0 : wc.cell? ⟨gb648, 0, none⟩ = some (.slice A0_0 l0_0.length c0_0) := (blk_cell BK648.out 0).trans rfl; have hcz70_1 : wc.cell? ⟨gb648, 1, none⟩ = some (.slice A0_1 l0_1.length c0_1) := (blk_cell BK648.out 1).trans rfl; have hfz70_0 := blk_frozen BK648.out 0; have hfz70_1 := blk_frozen BK648.out 1; obtain ⟨Ao71, co71, eo71⟩ := Kd.R_slice HO_10.out; subst eo71; go_wp2; go_meet; (case rel => exact ⟨_, (true), (by first | rfl | (simp; done) | (simp [*]; done)), H', ⟨by have := HJ4.out; have := HJ41.out; have := HJ51.out; first | omega | exact Nat.le_refl _⟩, ⟨by (with_reducible repeat (first | apply Kd.R_alloc | apply Kd.R_drewN | apply Kd.R_drew)); exact HO_10.out⟩, ⟨by (with_reducible repeat (first | apply Kd.R_alloc | apply Kd.R_drewN | apply Kd.R_drew)); exact HO_13.out⟩, ⟨by (with_reducible repeat (first | refine blk_drewN ?_ _ | refine blk_drew ?_ | refine blk_alloc ?_ _)); exact BK648.out⟩, ⟨by repeat (first | (with_reducible first | exact HB.out | apply below_alloc | apply pw_below_drewN | apply below_drew1 | refine below_set ?_ GE648.out) | exact HB.out)⟩⟩)
                  · rw [if_neg c69] at H; have c69b0 : decide (a2 < (t655.length : Int)) = false := decide_eq_false c69; clear c69; obtain ⟨t677, A720, H⟩ := Option.bind_eq_some_iff.mp H; (replace H : (if t677 = true then ((talikref03_Without.f kj51 l1 t655).bind fun t678 => (taliklaw03_CoolBroken.j4 kj51 l1 l3 t654 t655 x12_41 t671 ((t678.length : Int) != (wrap64 ((l1.length : Int) - (t655.length : Int)))) l0_0 l0_1)) else (taliklaw03_CoolBroken.j4 kj51 l1 l3 t654 t655 x12_41 t671 true l0_0 l0_1)) = some r := H); have A72 := Aside0.mk A720; clear A720; by_cases c73 : t677 = true
                    · subst c73; (replace H : ((talikref03_Without.f kj51 l1 t655).bind fun t678 => (taliklaw03_CoolBroken.j4 kj51 l1 l3 t654 t655 x12_41 t671 ((t678.length : Int) != (wrap64 ((l1.length : Int) - (t655.length : Int)))) l0_0 l0_1)) = some r := by rw [if_pos rfl] at H; exact H); obtain ⟨t678, A740, H⟩ := Option.bind_eq_some_iff.mp H; replace H : (taliklaw03_CoolBroken.j4 kj51 l1 l3 t654 t655 x12_41 t671 ((t678.length : Int) != (wrap64 ((l1.length : Int) - (t655.length : Int)))) l0_0 l0_1) = some r := H; have A74 := Aside0.mk A740; clear A740; have H' := Aside0.mk H; clear H; have hcz75_0 : wc.cell? ⟨gb648, 0, none⟩ = some (.slice A0_0 l0_0.length c0_0) := (blk_cell BK648.out 0).trans rfl; have hcz75_1 : wc.cell? ⟨gb648, 1, none⟩ = some (.slice A0_1 l0_1.length c0_1) := (blk_cell BK648.out 1).trans rfl; have hfz75_0 := blk_frozen BK648.out 0; have hfz75_1 := blk_frozen BK648.out 1; obtain ⟨Ao76, co76, eo76⟩ := Kd.R_slice HO_10.out; subst eo76; (go_wp2_with (first | (go_at_call 24; (with_reducible refine (talikref03_Coolers.calls kj51 _ _ l0_0 _ _ l0_1 _ _ t655 true _ ?side1 ?side2 ?side3 ?side4 ?side5 ?side6 A72.out).mono ?_); (case side1 => repeat (first | exact (Kd.C_below HR0_0.out HB.out) | (with_reducible refine Kd.C_alloc ?_ _) | (with_reducible refine Kd.C_drewN ?_ _) | (with_reducible refine Kd.C_drew ?_))); (case side2 => exact HC0_0.out); (case side3 => repeat (first | exact (Kd.C_below HR0_1.out HB.out) | (with_reducible refine Kd.C_alloc ?_ _) | (with_reducible refine Kd.C_drewN ?_ _) | (with_reducible refine Kd.C_drew ?_))); (case side4 => exact HC0_1.out); (case side5 => repeat (first | exact (Kd.R_reads' HO_10.out).2.2 | (with_reducible refine Kd.C_alloc ?_ _) | (with_reducible refine Kd.C_drewN ?_ _) | (with_reducible refine Kd.C_drew ?_))); (case side6 => exact (Kd.R_reads' HO_10.out).2.1); rintro e w77 ⟨rfl, hb⟩; have n0_ := Aside0.mk (Kd.R_below (by (with_reducible repeat (first | apply Kd.R_alloc | apply Kd.R_drewN | apply Kd.R_drew)); exact HO_10.out) hb); have n1_ := Aside0.mk (Kd.R_below (by (with_reducible repeat (first | apply Kd.R_alloc | apply Kd.R_drewN | apply Kd.R_drew)); exact HO_13.out) hb); have n2_ := Aside0.mk (blk_below (g := gb648) (o := .cells #[.slice A0_0 l0_0.length c0_0, .slice A0_1 l0_1.length c0_1] 25 (0, 0)) (by (with_reducible repeat (first | refine blk_drewN ?_ _ | refine blk_drew ?_ | refine blk_alloc ?_ _)); exact BK648.out) hb); have n3_ := Aside0.mk (below_step (by repeat (first | (with_reducible first | exact HB.out | apply below_alloc | apply pw_below_drewN | apply below_drew1 | refine below_set ?_ GE648.out) | exact HB.out)) hb); clear HO_10; clear HO_13; clear BK648; clear HB; have HO_10 := n0_; have HO_13 := n1_; have BK648 := n2_; have HB := n3_; clear n0_ n1_ n2_ n3_; (try clear hb); (try clear hb2); (try clear hk); (try clear hi)) | (go_at_call 35; (with_reducible refine (talikref03_Without.calls kj51 _ _ l1 _ _ t655 t678 _ ?side1 ?side2 ?side3 ?side4 A74.out).mono ?_); (case side1 => repeat (first | exact (Kd.C_below HR1.out HB.out) | (with_reducible refine Kd.C_alloc ?_ _) | (with_reducible refine Kd.C_drewN ?_ _) | (with_reducible refine Kd.C_drew ?_))); (case side2 => exact HC1.out); (case side3 => repeat (first | exact (Kd.R_reads' HO_10.out).2.2 | (with_reducible refine Kd.C_alloc ?_ _) | (with_reducible refine Kd.C_drewN ?_ _) | (with_reducible refine Kd.C_drew ?_))); (case side4 => exact (Kd.R_reads' HO_10.out).2.1); rintro e w78 ⟨v679, rfl, ho0, hb⟩; have n0_ := Aside0.mk (Kd.R_elder' (by (with_reducible repeat (first | apply Kd.R_alloc | apply Kd.R_drewN | apply Kd.R_drew)); exact HO_10.out) (Kd.R_base ho0) hb); have n1_ := Aside0.mk (Kd.R_elder' (by (with_reducible repeat (first | apply Kd.R_alloc | apply Kd.R_drewN | apply Kd.R_drew)); exact HO_13.out) (Kd.R_base ho0) hb); have n2_ := Aside0.mk (Kd.R_lower (Kd.R_new' (Kd.R_new' ho0 (Kd.R_lt (by (with_reducible repeat (first | apply Kd.R_alloc | apply Kd.R_drewN | apply Kd.R_drew)); exact HO_10.out))) (Kd.R_lt (by (with_reducible repeat (first | apply Kd.R_alloc | apply Kd.R_drewN | apply Kd.R_drew)); exact HO_13.out))) (below_size (by repeat (first | (with_reducible first | exact HB.out | apply below_alloc | apply pw_below_drewN | apply below_drew1 | refine below_set ?_ GE648.out) | exact HB.out)))); have n3_ := Aside0.mk (blk_below (g := gb648) (o := .cells #[.slice A0_0 l0_0.length c0_0, .slice A0_1 l0_1.length c0_1] 25 (0, 0)) (by (with_reducible repeat (first | refine blk_drewN ?_ _ | refine blk_drew ?_ | refine blk_alloc ?_ _)); exact BK648.out) hb); have n4_ := Aside0.mk (below_step (by repeat (first | (with_reducible first | exact HB.out | apply below_alloc | apply pw_below_drewN | apply below_drew1 | refine below_set ?_ GE648.out) | exact HB.out)) hb); clear HO_10; clear HO_13; clear BK648; clear HB; have HO_10 := n0_; have HO_13 := n1_; have HO680 := n2_; have BK648 := n3_; have HB := n4_; clear n0_ n1_ n2_ n3_ n4_; (try clear hb); (try clear hb2); (try clear hk); (try clear hi); (try clear ho0); obtain ⟨Ao79, co79, eo79⟩ := Kd.R_slice HO680.out; subst eo79))); go_meet; (case rel => exact ⟨_, (((t678.length : Int) != (wrap64 ((l1.length : Int) - (t655.length : Int))))), (by first | rfl | (simp; done) | (simp [*]; done)), H', ⟨by have := HJ4.out; have := HJ41.out; have := HJ51.out; first | omega | exact Nat.le_refl _⟩, ⟨by (with_reducible repeat (first | apply Kd.R_alloc | apply Kd.R_drewN | apply Kd.R_drew)); exact Kd.R_mono HO_10.out (fun _ hk => hk.1)⟩, ⟨by (with_reducible repeat (first | apply Kd.R_alloc | apply Kd.R_drewN | apply Kd.R_drew)); exact Kd.R_mono HO_13.out (fun _ hk => hk.1)⟩, ⟨by (with_reducible repeat (first | refine blk_drewN ?_ _ | refine blk_drew ?_ | refine blk_alloc ?_ _)); exact BK648.out⟩, ⟨by repeat (first | (with_reducible first | exact HB.out | apply below_alloc | apply pw_below_drewN | apply below_drew1 | refine below_set ?_ GE648.out) | exact HB.out)⟩⟩)
                    · replace c73 := Bool.eq_false_iff.mpr c73; subst c73; (replace H : (taliklaw03_CoolBroken.j4 kj51 l1 l3 t654 t655 x12_41 t671 true l0_0 l0_1) = some r := by rw [if_neg (show ¬ (false = true) by decide)] at H; exact H); have H' := Aside0.mk H; clear H; have hcz80_0 : wc.cell? ⟨gb648, 0, none⟩ = some (.slice A0_0 l0_0.length c0_0) := (blk_cell BK648.out 0).trans rfl; have hcz80_1 : wc.cell? ⟨gb648, 1, none⟩ = some (.slice A0_1 l0_1.length c0_1) := (blk_cell BK648.out 1).trans rfl; have hfz80_0 := blk_frozen BK648.out 0; have hfz80_1 := blk_frozen BK648.out 1; obtain ⟨Ao81, co81, eo81⟩ := Kd.R_slice HO_10.out; subst eo81; (go_wp2_with (first | (go_at_call 24; (with_reducible refine (talikref03_Coolers.calls kj51 _ _ l0_0 _ _ l0_1 _ _ t655 false _ ?side1 ?side2 ?side3 ?side4 ?side5 ?side6 A72.out).mono ?_); (case side1 => repeat (first | exact (Kd.C_below HR0_0.out HB.out) | (with_reducible refine Kd.C_alloc ?_ _) | (with_reducible refine Kd.C_drewN ?_ _) | (with_reducible refine Kd.C_drew ?_))); (case side2 => exact HC0_0.out); (case side3 => repeat (first | exact (Kd.C_below HR0_1.out HB.out) | (with_reducible refine Kd.C_alloc ?_ _) | (with_reducible refine Kd.C_drewN ?_ _) | (with_reducible refine Kd.C_drew ?_))); (case side4 => exact HC0_1.out); (case side5 => repeat (first | exact (Kd.R_reads' HO_10.out).2.2 | (with_reducible refine Kd.C_alloc ?_ _) | (with_reducible refine Kd.C_drewN ?_ _) | (with_reducible refine Kd.C_drew ?_))); (case side6 => exact (Kd.R_reads' HO_10.out).2.1); rintro e w82 ⟨rfl, hb⟩; have n0_ := Aside0.mk (Kd.R_below (by (with_reducible repeat (first | apply Kd.R_alloc | apply Kd.R_drewN | apply Kd.R_drew)); exact HO_10.out) hb); have n1_ := Aside0.mk (Kd.R_below (by (with_reducible repeat (first | apply Kd.R_alloc | apply Kd.R_drewN | apply Kd.R_drew)); exact HO_13.out) hb); have n2_ := Aside0.mk (blk_below (g := gb648) (o := .cells #[.slice A0_0 l0_0.length c0_0, .slice A0_1 l0_1.length c0_1] 25 (0, 0)) (by (with_reducible repeat (first | refine blk_drewN ?_ _ | refine blk_drew ?_ | refine blk_alloc ?_ _)); exact BK648.out) hb); have n3_ := Aside0.mk (below_step (by repeat (first | (with_reducible first | exact HB.out | apply below_alloc | apply pw_below_drewN | apply below_drew1 | refine below_set ?_ GE648.out) | exact HB.out)) hb); clear HO_10; clear HO_13; clear BK648; clear HB; have HO_10 := n0_; have HO_13 := n1_; have BK648 := n2_; have HB := n3_; clear n0_ n1_ n2_ n3_; (try clear hb); (try clear hb2); (try clear hk); (try clear hi)))); go_meet; (case rel => exact ⟨_, (true), (by first | rfl | (simp; done) | (simp [*]; done)), H', ⟨by have := HJ4.out; have := HJ41.out; have := HJ51.out; first | omega | exact Nat.le_refl _⟩, ⟨by (with_reducible repeat (first | apply Kd.R_alloc | apply Kd.R_drewN | apply Kd.R_drew)); exact HO_10.out⟩, ⟨by (with_reducible repeat (first | apply Kd.R_alloc | apply Kd.R_drewN | apply Kd.R_drew)); exact HO_13.out⟩, ⟨by (with_reducible repeat (first | refine blk_drewN ?_ _ | refine blk_drew ?_ | refine blk_alloc ?_ _)); exact BK648.out⟩, ⟨by repeat (first | (with_reducible first | exact HB.out | apply below_alloc | apply pw_below_drewN | apply below_drew1 | refine below_set ?_ GE648.out) | exact HB.out)⟩⟩)
             case rest => as_aux_lemma =>
              clear HC65; (try clear c1); (try clear c3); (try clear c38); (try clear c63); (try clear c64); (try clear c64b0); (try clear c64b1); (try clear hcz43_0); (try clear hcz43_1); (try clear hfz43_0); (try clear hfz43_1); obtain ⟨kq, x147_64, rfl, HA, HJ64, HO_10, HO_13, BK648, HB⟩ := hcut
              cases kq with
              | zero => exact absurd HA.out (by simp [taliklaw03_CoolBroken.j4])
              | succ kj64 =>
               have H := HA.out; clear HA; simp only [taliklaw03_CoolBroken.j4] at H; by_cases c83 : x147_64 = true
               · subst c83; (replace H : (some false) = some r := by rw [if_pos rfl] at H; exact H); obtain rfl := Option.some.inj H; go_wp2; go_ret; (exact ⟨by first | rfl | (simp [errW_none, errW_some] <;> rfl) | (simp [*, errW_none, errW_some] <;> rfl), by repeat (first | (with_reducible first | exact HB.out | apply below_alloc | apply pw_below_drewN | apply below_drew1 | refine below_set ?_ GE648.out) | exact HB.out)⟩)
               · replace c83 := Bool.eq_false_iff.mpr c83; subst c83; (replace H : ((talikref03_Without.f kj64 l1 t655).bind fun t681 => ((talikref03_Worst.f kj64 l0_0 l0_1).bind fun bt684 => ((cool_Play.f kj64 l0_0 l0_1 t681 bt684.1 bt684.2).bind fun bt690 => (if bt690.2 = 0 then (if (bt690.1.length : Int) = (l0_0.length : Int) then (if 0 ≤ t654 then (if t654 < (bt690.1.length : Int) then (taliklaw03_CoolBroken.j5 kj64 l3 t654 t655 x12_41 t671 (decide ((rd bt690.1 t654) ≥ 0))) else (none)) else (none)) else (taliklaw03_CoolBroken.j5 kj64 l3 t654 t655 x12_41 t671 true)) else (taliklaw03_CoolBroken.j5 kj64 l3 t654 t655 x12_41 t671 true))))) = some r := by rw [if_neg (show ¬ (false = true) by decide)] at H; exact H); obtain ⟨t681, A840, H⟩ := Option.bind_eq_some_iff.mp H; (replace H : ((talikref03_Worst.f kj64 l0_0 l0_1).bind fun bt684 => ((cool_Play.f kj64 l0_0 l0_1 t681 bt684.1 bt684.2).bind fun bt690 => (if bt690.2 = 0 then (if (bt690.1.length : Int) = (l0_0.length : Int) then (if 0 ≤ t654 then (if t654 < (bt690.1.length : Int) then (taliklaw03_CoolBroken.j5 kj64 l3 t654 t655 x12_41 t671 (decide ((rd bt690.1 t654) ≥ 0))) else (none)) else (none)) else (taliklaw03_CoolBroken.j5 kj64 l3 t654 t655 x12_41 t671 true)) else (taliklaw03_CoolBroken.j5 kj64 l3 t654 t655 x12_41 t671 true)))) = some r := H); have A84 := Aside0.mk A840; clear A840; obtain ⟨⟨t684, t687⟩, A850, H⟩ := Option.bind_eq_some_iff.mp H; (replace H : ((cool_Play.f kj64 l0_0 l0_1 t681 t684 t687).bind fun bt690 => (if bt690.2 = 0 then (if (bt690.1.length : Int) = (l0_0.length : Int) then (if 0 ≤ t654 then (if t654 < (bt690.1.length : Int) then (taliklaw03_CoolBroken.j5 kj64 l3 t654 t655 x12_41 t671 (decide ((rd bt690.1 t654) ≥ 0))) else (none)) else (none)) else (taliklaw03_CoolBroken.j5 kj64 l3 t654 t655 x12_41 t671 true)) else (taliklaw03_CoolBroken.j5 kj64 l3 t654 t655 x12_41 t671 true))) = some r := H); have A85 := Aside0.mk A850; clear A850; obtain ⟨⟨t690, t693⟩, A860, H⟩ := Option.bind_eq_some_iff.mp H; (replace H : (if t693 = 0 then (if (t690.length : Int) = (l0_0.length : Int) then (if 0 ≤ t654 then (if t654 < (t690.length : Int) then (taliklaw03_CoolBroken.j5 kj64 l3 t654 t655 x12_41 t671 (decide ((rd t690 t654) ≥ 0))) else (none)) else (none)) else (taliklaw03_CoolBroken.j5 kj64 l3 t654 t655 x12_41 t671 true)) else (taliklaw03_CoolBroken.j5 kj64 l3 t654 t655 x12_41 t671 true)) = some r := H); have A86 := Aside0.mk A860; clear A860; have HC87 := Aside0.mk H; clear H; (try go_wp2); have n0_ := Aside0.mk (Kd.R_drew HO_10.out); have n1_ := Aside0.mk (Kd.R_drew HO_13.out); have n2_ := Aside0.mk (blk_drew BK648.out); have n3_ := Aside0.mk (below_drew1 HB.out); clear HO_10; clear HO_13; clear BK648; clear HB; have HO_10 := n0_; have HO_13 := n1_; have BK648 := n2_; have HB := n3_; clear n0_ n1_ n2_ n3_; obtain ⟨Ao89, co89, eo89⟩ := Kd.R_slice HO_10.out; ((first | subst eo89 | (injection eo89 with f1_ f2_ f3_; have f4_ := f1_.symm; have f5_ := f3_.symm; clear f1_ f2_ f3_; subst f4_; subst f5_))); (refine start_ (n := 12) (S := fun w' => w'.cell? ⟨gb648, 0, none⟩ = some (.slice A0_0 l0_0.length c0_0) ∧ w'.cell? ⟨gb648, 1, none⟩ = some (.slice A0_1 l0_1.length c0_1)) (ds := []) #[false, false, false, false, false, false, false, false, false, false, false, false] (by kernel_rfl) rfl rfl ⟨(blk_cell BK648.out 0).trans rfl, (blk_cell BK648.out 1).trans rfl⟩ (fun hHeld => ?_); refine with_tabW taliklaw03_CoolBroken.tab17 taliklaw03_CoolBroken.bits17 (fun HT_ HW_ => ?_)); generalize wc.drew = w88 at HO_10 HO_13 BK648 HB hHeld ⊢; (refine pure_ (i := 1) (N := some 150) (v := ?_) (a' := ?_) #[false, true, false, false, false, false, false, false, false, false, false, false] rfl rfl (any_of HT_.out (by kernel_rfl)) (fun _ _ _ h => h) (Or.inl ⟨by rfl, ?_⟩) ?_ ?_); rotate_left
                 · intro w'; go_simp; (with_reducible rfl)
                 rotate_left
                 · simp only [Act.put, List.setIfInBounds_toArray, List.set_cons_zero, List.set_cons_succ, i64_w, i32_w]; rfl
                 (refine pure_ (i := 2) (N := some 151) (v := ?_) (a' := ?_) #[false, true, true, false, false, false, false, false, false, false, false, false] rfl rfl (any_of HT_.out (by kernel_rfl)) (fun _ _ _ h => h) (Or.inl ⟨by rfl, ?_⟩) ?_ ?_); rotate_left
                 · intro w'; go_simp; (with_reducible rfl)
                 rotate_left
                 · simp only [Act.put, List.setIfInBounds_toArray, List.set_cons_zero, List.set_cons_succ, i64_w, i32_w]; rfl
                 (refine take_ (i := 0) (N := some 149) (v := ?_) (a' := ?_) #[true, true, true, false, false, false, false, false, false, false, false, false] rfl rfl (take_ofW HT_.out HW_.out (by kernel_rfl)) (fun _ _ _ h => h) (Or.inl ⟨by rfl, ?_⟩) hHeld ?_ ?_); rotate_left
                 · rintro w' ⟨s0, s1⟩; go_simp; (with_reducible rfl)
                 rotate_left
                 · simp only [Act.put, List.setIfInBounds_toArray, List.set_cons_zero, List.set_cons_succ, i64_w, i32_w]; rfl
                 (refine take_ (i := 4) (N := some 153) (v := ?_) (a' := ?_) #[true, true, true, false, true, false, false, false, false, false, false, false] rfl rfl (take_ofW HT_.out HW_.out (by kernel_rfl)) (fun _ _ _ h => h) (Or.inl ⟨by rfl, ?_⟩) hHeld ?_ ?_); rotate_left
                 · rintro w' ⟨s0, s1⟩; go_simp; (with_reducible rfl)
                 rotate_left
                 · simp only [Act.put, List.setIfInBounds_toArray, List.set_cons_zero, List.set_cons_succ, i64_w, i32_w]; rfl
                 (refine one_ (i := 3) (N := some 152) #[true, true, true, true, true, false, false, false, false, false, false, false] rfl rfl (one_of HT_.out (by kernel_rfl)) (by decide) (fun K hK => ?_)); (refine goes_ Try.func35 (by kernel_rfl) rfl #[.slice A1 l1.length c1, .slice Ao89 t655.length co89] (by rfl) rfl rfl (by (try simp only [List.map_toArray, List.map_cons, List.map_nil]); first | done | rfl | (simp only [List.length_drop, List.length_take]; rfl)) ?_); (with_reducible refine (talikref03_Without.calls kj64 _ _ l1 _ _ t655 t681 _ ?side1 ?side2 ?side3 ?side4 A84.out).mono ?_); ((case side1 => repeat (first | exact (Kd.C_below HR1.out HB.out) | (with_reducible refine Kd.C_alloc ?_ _) | (with_reducible refine Kd.C_drewN ?_ _) | (with_reducible refine Kd.C_drew ?_)))); ((case side2 => exact HC1.out)); ((case side3 => repeat (first | exact (Kd.R_reads' HO_10.out).2.2 | (with_reducible refine Kd.C_alloc ?_ _) | (with_reducible refine Kd.C_drewN ?_ _) | (with_reducible refine Kd.C_drew ?_)))); ((case side4 => exact (Kd.R_reads' HO_10.out).2.1)); rintro e w90 ⟨v682, rfl, ho0, hb⟩; refine ⟨_, rfl, ?_⟩; (have n0_ := Aside0.mk (Kd.R_elder' (by (with_reducible repeat (first | apply Kd.R_alloc | apply Kd.R_drewN | apply Kd.R_drew)); exact HO_10.out) (Kd.R_base ho0) hb)); (have n1_ := Aside0.mk (Kd.R_elder' (by (with_reducible repeat (first | apply Kd.R_alloc | apply Kd.R_drewN | apply Kd.R_drew)); exact HO_13.out) (Kd.R_base ho0) hb)); (have n2_ := Aside0.mk (Kd.R_lower (Kd.R_new' (Kd.R_new' ho0 (Kd.R_lt (by (with_reducible repeat (first | apply Kd.R_alloc | apply Kd.R_drewN | apply Kd.R_drew)); exact HO_10.out))) (Kd.R_lt (by (with_reducible repeat (first | apply Kd.R_alloc | apply Kd.R_drewN | apply Kd.R_drew)); exact HO_13.out))) (below_size (by repeat (first | (with_reducible first | exact HB.out | apply below_alloc | apply pw_below_drewN | apply below_drew1 | refine below_set ?_ GE648.out) | exact HB.out))))); (have n3_ := Aside0.mk (blk_below (g := gb648) (o := .cells #[.slice A0_0 l0_0.length c0_0, .slice A0_1 l0_1.length c0_1] 25 (0, 0)) (by (with_reducible repeat (first | refine blk_drewN ?_ _ | refine blk_drew ?_ | refine blk_alloc ?_ _)); exact BK648.out) hb)); (have n4_ := Aside0.mk (below_step (by repeat (first | (with_reducible first | exact HB.out | apply below_alloc | apply pw_below_drewN | apply below_drew1 | refine below_set ?_ GE648.out) | exact HB.out)) hb)); clear HO_10; clear HO_13; clear BK648; clear HB; have HO_10 := n0_; have HO_13 := n1_; have HO683 := n2_; have BK648 := n3_; have HB := n4_; clear n0_ n1_ n2_ n3_ n4_; ((try clear hb)); ((try clear hb2)); ((try clear hk)); ((try clear hi)); ((try clear ho0)); (refine hK.out _ _ ⟨(blk_cell BK648.out 0).trans rfl, (blk_cell BK648.out 1).trans rfl⟩ (fun hHeld => ?_)); clear hK K; refine norm_ (a' := ?_) ?_ ?_; rotate_left
                 · (show Act.put _ (some 152) _ = _); simp only [Act.put, List.setIfInBounds_toArray, List.set_cons_zero, List.set_cons_succ, i64_w, i32_w]; rfl
                 (refine one_ (i := 5) (N := some 154) #[true, true, true, true, true, true, false, false, false, false, false, false] rfl rfl (one_of HT_.out (by kernel_rfl)) (by decide) (fun K hK => ?_)); (refine goes_ Try.func43 (by kernel_rfl) rfl #[.agg #[.slice A0_0 l0_0.length c0_0, .slice A0_1 l0_1.length c0_1]] (by rfl) rfl rfl (by (try simp only [List.map_toArray, List.map_cons, List.map_nil]); first | done | rfl | (simp only [List.length_drop, List.length_take]; rfl)) ?_); (with_reducible refine (talikref03_Worst.calls kj64 _ _ l0_0 _ _ l0_1 t684 t687 _ ?side1 ?side2 ?side3 ?side4 A85.out).mono ?_); ((case side1 => repeat (first | exact (Kd.C_below HR0_0.out HB.out) | (with_reducible refine Kd.C_alloc ?_ _) | (with_reducible refine Kd.C_drewN ?_ _) | (with_reducible refine Kd.C_drew ?_)))); ((case side2 => exact HC0_0.out)); ((case side3 => repeat (first | exact (Kd.C_below HR0_1.out HB.out) | (with_reducible refine Kd.C_alloc ?_ _) | (with_reducible refine Kd.C_drewN ?_ _) | (with_reducible refine Kd.C_drew ?_)))); ((case side4 => exact HC0_1.out)); rintro e w91 ⟨v685, v688, rfl, ho0, ho1, hb⟩; refine ⟨_, rfl, ?_⟩; (have n0_ := Aside0.mk (Kd.R_elder' (by (with_reducible repeat (first | apply Kd.R_alloc | apply Kd.R_drewN | apply Kd.R_drew)); exact HO_10.out) (Kd.R_base ho0) hb)); (have n1_ := Aside0.mk (Kd.R_elder' (by (with_reducible repeat (first | apply Kd.R_alloc | apply Kd.R_drewN | apply Kd.R_drew)); exact HO_13.out) (Kd.R_base ho0) hb)); (have n2_ := Aside0.mk (Kd.R_elder' (by (with_reducible repeat (first | apply Kd.R_alloc | apply Kd.R_drewN | apply Kd.R_drew)); exact HO683.out) (Kd.R_base ho0) hb)); (have n3_ := Aside0.mk (Kd.R_lower (Kd.R_new' (Kd.R_new' (Kd.R_new' ho0 (Kd.R_lt (by (with_reducible repeat (first | apply Kd.R_alloc | apply Kd.R_drewN | apply Kd.R_drew)); exact HO_10.out))) (Kd.R_lt (by (with_reducible repeat (first | apply Kd.R_alloc | apply Kd.R_drewN | apply Kd.R_drew)); exact HO_13.out))) (Kd.R_lt (by (with_reducible repeat (first | apply Kd.R_alloc | apply Kd.R_drewN | apply Kd.R_drew)); exact HO683.out))) (below_size (by repeat (first | (with_reducible first | exact HB.out | apply below_alloc | apply pw_below_drewN | apply below_drew1 | refine below_set ?_ GE648.out) | exact HB.out))))); (have n4_ := Aside0.mk (Kd.S_lower (Kd.S_new' (Kd.S_new' (Kd.S_new' ho1 (Kd.R_lt (by (with_reducible repeat (first | apply Kd.R_alloc | apply Kd.R_drewN | apply Kd.R_drew)); exact HO_10.out))) (Kd.R_lt (by (with_reducible repeat (first | apply Kd.R_alloc | apply Kd.R_drewN | apply Kd.R_drew)); exact HO_13.out))) (Kd.R_lt (by (with_reducible repeat (first | apply Kd.R_alloc | apply Kd.R_drewN | apply Kd.R_drew)); exact HO683.out))) (below_size (by repeat (first | (with_reducible first | exact HB.out | apply below_alloc | apply pw_below_drewN | apply below_drew1 | refine below_set ?_ GE648.out) | exact HB.out))))); (have n5_ := Aside0.mk (blk_below (g := gb648) (o := .cells #[.slice A0_0 l0_0.length c0_0, .slice A0_1 l0_1.length c0_1] 25 (0, 0)) (by (with_reducible repeat (first | refine blk_drewN ?_ _ | refine blk_drew ?_ | refine blk_alloc ?_ _)); exact BK648.out) hb)); (have n6_ := Aside0.mk (below_step (by repeat (first | (with_reducible first | exact HB.out | apply below_alloc | apply pw_below_drewN | apply below_drew1 | refine below_set ?_ GE648.out) | exact HB.out)) hb)); clear HO_10; clear HO_13; clear HO683; clear BK648; clear HB; have HO_10 := n0_; have HO_13 := n1_; have HO683 := n2_; have HO686 := n3_; have HO689 := n4_; have BK648 := n5_; have HB := n6_; clear n0_ n1_ n2_ n3_ n4_ n5_ n6_; ((try clear hb)); ((try clear hb2)); ((try clear hk)); ((try clear hi)); ((try clear ho0)); ((try clear ho1)); obtain ⟨Ao92, co92, eo92⟩ := Kd.R_slice HO683.out; ((first | subst eo92 | (injection eo92 with f1_ f2_ f3_; have f4_ := f1_.symm; have f5_ := f3_.symm; clear f1_ f2_ f3_; subst f4_; subst f5_))); obtain ⟨Ao93, co93, eo93⟩ := Kd.R_slice HO686.out; ((first | subst eo93 | (injection eo93 with f1_ f2_ f3_; have f4_ := f1_.symm; have f5_ := f3_.symm; clear f1_ f2_ f3_; subst f4_; subst f5_))); obtain ⟨Ao94, co94, eo94⟩ := Kd.S_slice HO689.out; ((first | subst eo94 | (injection eo94 with f1_ f2_ f3_; have f4_ := f1_.symm; have f5_ := f3_.symm; clear f1_ f2_ f3_; subst f4_; subst f5_))); (refine hK.out _ _ ⟨(blk_cell BK648.out 0).trans rfl, (blk_cell BK648.out 1).trans rfl⟩ (fun hHeld => ?_)); clear hK K; refine norm_ (a' := ?_) ?_ ?_; rotate_left
                 · (show Act.put _ (some 154) _ = _); simp only [Act.put, List.setIfInBounds_toArray, List.set_cons_zero, List.set_cons_succ, i64_w, i32_w]; rfl
                 (refine one_ (i := 6) (N := some 155) #[true, true, true, true, true, true, true, false, false, false, false, false] rfl rfl (one_of HT_.out (by kernel_rfl)) (by decide) (fun K hK => ?_)); (refine goes_ Try.func42 (by kernel_rfl) rfl #[.agg #[.slice A0_0 l0_0.length c0_0, .slice A0_1 l0_1.length c0_1], .slice Ao92 t681.length co92, .agg #[.slice Ao93 t684.length co93, .slice Ao94 t687.length co94]] (by rfl) rfl rfl (by (try simp only [List.map_toArray, List.map_cons, List.map_nil]); first | done | rfl | (simp only [List.length_drop, List.length_take]; rfl)) ?_); (with_reducible refine (cool_Play.calls kj64 _ _ l0_0 _ _ l0_1 _ _ t681 _ _ t684 _ _ t687 t690 t693 _ ?side1 ?side2 ?side3 ?side4 ?side5 ?side6 ?side7 ?side8 ?side9 ?side10 A86.out).mono ?_); ((case side1 => repeat (first | exact (Kd.C_below HR0_0.out HB.out) | (with_reducible refine Kd.C_alloc ?_ _) | (with_reducible refine Kd.C_drewN ?_ _) | (with_reducible refine Kd.C_drew ?_)))); ((case side2 => exact HC0_0.out)); ((case side3 => repeat (first | exact (Kd.C_below HR0_1.out HB.out) | (with_reducible refine Kd.C_alloc ?_ _) | (with_reducible refine Kd.C_drewN ?_ _) | (with_reducible refine Kd.C_drew ?_)))); ((case side4 => exact HC0_1.out)); ((case side5 => repeat (first | exact (Kd.R_reads' HO683.out).2.2 | (with_reducible refine Kd.C_alloc ?_ _) | (with_reducible refine Kd.C_drewN ?_ _) | (with_reducible refine Kd.C_drew ?_)))); ((case side6 => exact (Kd.R_reads' HO683.out).2.1)); ((case side7 => repeat (first | exact (Kd.R_reads' HO686.out).2.2 | (with_reducible refine Kd.C_alloc ?_ _) | (with_reducible refine Kd.C_drewN ?_ _) | (with_reducible refine Kd.C_drew ?_)))); ((case side8 => exact (Kd.R_reads' HO686.out).2.1)); ((case side9 => repeat (first | exact (Kd.S_reads' HO689.out).2.2 | (with_reducible refine Kd.C_alloc ?_ _) | (with_reducible refine Kd.C_drewN ?_ _) | (with_reducible refine Kd.C_drew ?_)))); ((case side10 => exact (Kd.S_reads' HO689.out).2.1)); rintro e w95 ⟨v691, rfl, ho0, hb⟩; refine ⟨_, rfl, ?_⟩; (have n0_ := Aside0.mk (Kd.R_elder' (by (with_reducible repeat (first | apply Kd.R_alloc | apply Kd.R_drewN | apply Kd.R_drew)); exact HO_10.out) (Kd.R_base ho0) hb)); (have n1_ := Aside0.mk (Kd.R_elder' (by (with_reducible repeat (first | apply Kd.R_alloc | apply Kd.R_drewN | apply Kd.R_drew)); exact HO_13.out) (Kd.R_base ho0) hb)); (have n2_ := Aside0.mk (Kd.R_elder' (by (with_reducible repeat (first | apply Kd.R_alloc | apply Kd.R_drewN | apply Kd.R_drew)); exact HO683.out) (Kd.R_base ho0) hb)); (have n3_ := Aside0.mk (Kd.R_elder' (by (with_reducible repeat (first | apply Kd.R_alloc | apply Kd.R_drewN | apply Kd.R_drew)); exact HO686.out) (Kd.R_base ho0) hb)); (have n4_ := Aside0.mk (Kd.S_elder' (by (with_reducible repeat (first | apply Kd.S_alloc | apply Kd.S_drewN | apply Kd.S_drew)); exact HO689.out) (Kd.R_base ho0) hb)); (have n5_ := Aside0.mk (Kd.R_lower (Kd.R_new' (Kd.R_new' (Kd.R_new' (Kd.R_new' ho0 (Kd.R_lt (by (with_reducible repeat (first | apply Kd.R_alloc | apply Kd.R_drewN | apply Kd.R_drew)); exact HO_10.out))) (Kd.R_lt (by (with_reducible repeat (first | apply Kd.R_alloc | apply Kd.R_drewN | apply Kd.R_drew)); exact HO_13.out))) (Kd.R_lt (by (with_reducible repeat (first | apply Kd.R_alloc | apply Kd.R_drewN | apply Kd.R_drew)); exact HO683.out))) (Kd.R_lt (by (with_reducible repeat (first | apply Kd.R_alloc | apply Kd.R_drewN | apply Kd.R_drew)); exact HO686.out))) (below_size (by repeat (first | (with_reducible first | exact HB.out | apply below_alloc | apply pw_below_drewN | apply below_drew1 | refine below_set ?_ GE648.out) | exact HB.out))))); (have n6_ := Aside0.mk (blk_below (g := gb648) (o := .cells #[.slice A0_0 l0_0.length c0_0, .slice A0_1 l0_1.length c0_1] 25 (0, 0)) (by (with_reducible repeat (first | refine blk_drewN ?_ _ | refine blk_drew ?_ | refine blk_alloc ?_ _)); exact BK648.out) hb)); (have n7_ := Aside0.mk (below_step (by repeat (first | (with_reducible first | exact HB.out | apply below_alloc | apply pw_below_drewN | apply below_drew1 | refine below_set ?_ GE648.out) | exact HB.out)) hb)); clear HO_10; clear HO_13; clear HO683; clear HO686; clear HO689; clear BK648; clear HB; have HO_10 := n0_; have HO_13 := n1_; have HO683 := n2_; have HO686 := n3_; have HO689 := n4_; have HO692 := n5_; have BK648 := n6_; have HB := n7_; clear n0_ n1_ n2_ n3_ n4_ n5_ n6_ n7_; ((try clear hb)); ((try clear hb2)); ((try clear hk)); ((try clear hi)); ((try clear ho0)); (refine hK.out _ _ ⟨(blk_cell BK648.out 0).trans rfl, (blk_cell BK648.out 1).trans rfl⟩ (fun hHeld => ?_)); clear hK K; refine norm_ (a' := ?_) ?_ ?_; rotate_left
                 · (show Act.put _ (some 155) _ = _); simp only [Act.put, List.setIfInBounds_toArray, List.set_cons_zero, List.set_cons_succ, i64_w, i32_w]; rfl
                 (refine pure_ (i := 7) (N := some 148) (v := ?_) (a' := ?_) #[true, true, true, true, true, true, true, true, false, false, false, false] rfl rfl (any_of HT_.out (by kernel_rfl)) (fun _ _ _ h => h) (Or.inl ⟨by rfl, ?_⟩) ?_ ?_); rotate_left
                 · intro w'; go_simp; (with_reducible rfl)
                 rotate_left
                 · simp only [Act.put, List.setIfInBounds_toArray, List.set_cons_zero, List.set_cons_succ, i64_w, i32_w]; rfl
                 (refine pure_ (i := 8) (N := some 156) (v := ?_) (a' := ?_) #[true, true, true, true, true, true, true, true, true, false, false, false] rfl rfl (any_of HT_.out (by kernel_rfl)) (fun _ _ _ h => h) (Or.inl ⟨by rfl, ?_⟩) ?_ ?_); rotate_left
                 · intro w'; go_simp; (with_reducible rfl)
                 rotate_left
                 · simp only [Act.put, List.setIfInBounds_toArray, List.set_cons_zero, List.set_cons_succ, i64_w, i32_w]; rfl
                 (refine pure_ (i := 9) (N := some 157) (v := ?_) (a' := ?_) #[true, true, true, true, true, true, true, true, true, true, false, false] rfl rfl (any_of HT_.out (by kernel_rfl)) (fun _ _ _ h => h) (Or.inl ⟨by rfl, ?_⟩) ?_ ?_); rotate_left
                 · intro w'; go_simp; (with_reducible rfl)
                 rotate_left
                 · simp only [Act.put, List.setIfInBounds_toArray, List.set_cons_zero, List.set_cons_succ, i64_w, i32_w]; rfl
                 (refine pure_ (i := 10) (N := some 16) (v := ?_) (a' := ?_) #[true, true, true, true, true, true, true, true, true, true, true, false] rfl rfl (any_of HT_.out (by kernel_rfl)) (fun _ _ _ h => h) (Or.inl ⟨by rfl, ?_⟩) ?_ ?_); rotate_left
                 · intro w'; go_simp; (with_reducible rfl)
                 rotate_left
                 · simp only [Act.put, List.setIfInBounds_toArray, List.set_cons_zero, List.set_cons_succ, i64_w, i32_w]; rfl
                 (refine pure_ (i := 11) (N := some 17) (v := ?_) (a' := ?_) #[true, true, true, true, true, true, true, true, true, true, true, true] rfl rfl (any_of HT_.out (by kernel_rfl)) (fun _ _ _ h => h) (Or.inl ⟨by rfl, ?_⟩) ?_ ?_); rotate_left
                 · intro w'; go_simp; (with_reducible rfl)
                 rotate_left
                 · simp only [Act.put, List.setIfInBounds_toArray, List.set_cons_zero, List.set_cons_succ, i64_w, i32_w]; rfl
                 (refine done_ (done_of HT_.out (by kernel_rfl)) ?_); (go_upto_region 18 with (fail)); (go_cut [174] (fun v174 wc => ∃ (kq : Nat) (x174_86 : Bool), v174 = .bool x174_86 ∧ Aside0 (taliklaw03_CoolBroken.j5 kq l3 t654 t655 x12_41 t671 x174_86 = some r) ∧ Aside0 (kq ≤ kj64) ∧ Aside0 (Kd.R (Kd.int .i64) 3 wc w.heap.size (fun k_ => some k_ ≠ (v672 : Value).ownBlock) (.slice Ao89 t655.length co89) t655) ∧ Aside0 (Kd.R (Kd.int .i64) 3 wc w.heap.size (fun k_ => some k_ ≠ ((.slice Ao89 t655.length co89) : Value).ownBlock) v672 t671) ∧ Aside0 (wc.heap[gb648]? = some (.cells #[(.slice A0_0 l0_0.length c0_0), (.slice A0_1 l0_1.length c0_1)] 25 (0, 0))) ∧ Aside0 (Below w.heap.size w wc)))
                 case first => as_aux_lemma =>
                  have H := HC87.out; clear HC87; by_cases c96 : t693 = 0
                  · rw [if_pos c96] at H; have c96b0 : (t693 == 0) = true := beq_iff_eq.mpr c96; have c96b1 : (t693 != 0) = false := bne_eq_false_iff_eq.mpr c96; clear c96; ((first | rw [c96b0] | (simp only [i64_w, i32_w]; rw [c96b0]) | skip)); by_cases c97 : (t690.length : Int) = (l0_0.length : Int)
                    · rw [if_pos c97] at H; have c97b0 : ((t690.length : Int) == (l0_0.length : Int)) = true := beq_iff_eq.mpr c97; have c97b1 : ((t690.length : Int) != (l0_0.length : Int)) = false := bne_eq_false_iff_eq.mpr c97; (have c97b2 : (t690.length == l0_0.length) = true := by first | simpa using c97 | (simp at c97 ⊢; omega)); clear c97; by_cases c98 : 0 ≤ t654
                      · rw [if_pos c98] at H; have c98b0 : decide (0 ≤ t654) = true := decide_eq_true c98; clear c98; by_cases c99 : t654 < (t690.length : Int)
                        · rw [if_pos c99] at H; have c99b0 : decide (t654 < (t690.length : Int)) = true := decide_eq_true c99; clear c99; have H' := Aside0.mk H; clear H; obtain ⟨Ao100, co100, eo100⟩ := Kd.R_slice HO692.out; subst eo100; have hcz101_0 : w95.cell? ⟨gb648, 0, none⟩ = some (.slice A0_0 l0_0.length c0_0) := (blk_cell BK648.out 0).trans rfl; have hcz101_1 : w95.cell? ⟨gb648, 1, none⟩ = some (.slice A0_1 l0_1.length c0_1) := (blk_cell BK648.out 1).trans rfl; have hfz101_0 := blk_frozen BK648.out 0; have hfz101_1 := blk_frozen BK648.out 1; (have p694 : 0 ≤ (t654 : Int) := of_decide_eq_true (by first | (with_reducible assumption) | assumption)); (have q694 : t654 < (t690.length : Int) := of_decide_eq_true (by first | (with_reducible assumption) | assumption)); obtain ⟨ad694, e694, hx694_0⟩ := Kd.at_int (Kd.R_reads' HO692.out).2.2 t654 p694 q694; cases e694; replace p694 := eq_true p694; replace q694 := eq_true q694; go_wp2; go_meet; (case rel => exact ⟨_, (decide ((rd t690 t654) ≥ 0)), (by first | rfl | (simp; done) | (simp [*]; done)), H', ⟨by have := HJ4.out; have := HJ41.out; have := HJ51.out; have := HJ64.out; first | omega | exact Nat.le_refl _⟩, ⟨by (with_reducible repeat (first | apply Kd.R_alloc | apply Kd.R_drewN | apply Kd.R_drew)); exact Kd.R_mono HO_10.out (fun _ hk => hk.1.1.1)⟩, ⟨by (with_reducible repeat (first | apply Kd.R_alloc | apply Kd.R_drewN | apply Kd.R_drew)); exact Kd.R_mono HO_13.out (fun _ hk => hk.1.1.1)⟩, ⟨by (with_reducible repeat (first | refine blk_drewN ?_ _ | refine blk_drew ?_ | refine blk_alloc ?_ _)); exact BK648.out⟩, ⟨by repeat (first | (with_reducible first | exact HB.out | apply below_alloc | apply pw_below_drewN | apply below_drew1 | refine below_set ?_ GE648.out) | exact HB.out)⟩⟩)
                        · rw [if_neg c99] at H; (exact absurd H (by simp))
                      · rw [if_neg c98] at H; (exact absurd H (by simp))
                    · rw [if_neg c97] at H; have c97b0 : ((t690.length : Int) == (l0_0.length : Int)) = false := beq_eq_false_iff_ne.mpr c97; have c97b1 : ((t690.length : Int) != (l0_0.length : Int)) = true := bne_iff_ne.mpr c97; (have c97b2 : (t690.length == l0_0.length) = false := by first | simpa using c97 | (simp at c97 ⊢; omega)); have H' := Aside0.mk H; clear H; obtain ⟨Ao102, co102, eo102⟩ := Kd.R_slice HO692.out; subst eo102; have hcz103_0 : w95.cell? ⟨gb648, 0, none⟩ = some (.slice A0_0 l0_0.length c0_0) := (blk_cell BK648.out 0).trans rfl; have hcz103_1 : w95.cell? ⟨gb648, 1, none⟩ = some (.slice A0_1 l0_1.length c0_1) := (blk_cell BK648.out 1).trans rfl; have hfz103_0 := blk_frozen BK648.out 0; have hfz103_1 := blk_frozen BK648.out 1; go_wp2; go_meet; (case rel => exact ⟨_, (true), (by first | rfl | (simp; done) | (simp [*]; done)), H', ⟨by have := HJ4.out; have := HJ41.out; have := HJ51.out; have := HJ64.out; first | omega | exact Nat.le_refl _⟩, ⟨by (with_reducible repeat (first | apply Kd.R_alloc | apply Kd.R_drewN | apply Kd.R_drew)); exact Kd.R_mono HO_10.out (fun _ hk => hk.1.1.1)⟩, ⟨by (with_reducible repeat (first | apply Kd.R_alloc | apply Kd.R_drewN | apply Kd.R_drew)); exact Kd.R_mono HO_13.out (fun _ hk => hk.1.1.1)⟩, ⟨by (with_reducible repeat (first | refine blk_drewN ?_ _ | refine blk_drew ?_ | refine blk_alloc ?_ _)); exact BK648.out⟩, ⟨by repeat (first | (with_reducible first | exact HB.out | apply below_alloc | apply pw_below_drewN | apply below_drew1 | refine below_set ?_ GE648.out) | exact HB.out)⟩⟩)
                  · rw [if_neg c96] at H; have c96b0 : (t693 == 0) = false := beq_eq_false_iff_ne.mpr c96; have c96b1 : (t693 != 0) = true := bne_iff_ne.mpr c96; ((first | rw [c96b0] | (simp only [i64_w, i32_w]; rw [c96b0]) | skip)); have H' := Aside0.mk H; clear H; go_wp2; go_meet; (case rel => exact ⟨_, (true), (by first | rfl | (simp; done) | (simp [*]; done)), H', ⟨by have := HJ4.out; have := HJ41.out; have := HJ51.out; have := HJ64.out; first | omega | exact Nat.le_refl _⟩, ⟨by (with_reducible repeat (first | apply Kd.R_alloc | apply Kd.R_drewN | apply Kd.R_drew)); exact Kd.R_mono HO_10.out (fun _ hk => hk.1.1.1)⟩, ⟨by (with_reducible repeat (first | apply Kd.R_alloc | apply Kd.R_drewN | apply Kd.R_drew)); exact Kd.R_mono HO_13.out (fun _ hk => hk.1.1.1)⟩, ⟨by (with_reducible repeat (first | refine blk_drewN ?_ _ | refine blk_drew ?_ | refine blk_alloc ?_ _)); exact BK648.out⟩, ⟨by repeat (first | (with_reducible first | exact HB.out | apply below_alloc | apply pw_below_drewN | apply below_drew1 | refine below_set ?_ GE648.out) | exact HB.out)⟩⟩)
                 case rest => as_aux_lemma =>
                  clear HC87; (try clear c1); (try clear c3); (try clear c38); (try clear c63); (try clear c64); (try clear c64b0); (try clear c64b1); (try clear c83); (try clear hcz43_0); (try clear hcz43_1); (try clear hfz43_0); (try clear hfz43_1); obtain ⟨kq, x174_86, rfl, HA, HJ86, HO_10, HO_13, BK648, HB⟩ := hcut
                  cases kq with
                  | zero => exact absurd HA.out (by simp [taliklaw03_CoolBroken.j5])
                  | succ kj86 =>
                   have H := HA.out; clear HA; simp only [taliklaw03_CoolBroken.j5] at H; by_cases c104 : x174_86 = true
                   · subst c104; (replace H : (some false) = some r := by rw [if_pos rfl] at H; exact H); obtain rfl := Option.some.inj H; go_wp2; go_ret; (exact ⟨by first | rfl | (simp [errW_none, errW_some] <;> rfl) | (simp [*, errW_none, errW_some] <;> rfl), by repeat (first | (with_reducible first | exact HB.out | apply below_alloc | apply pw_below_drewN | apply below_drew1 | refine below_set ?_ GE648.out) | exact HB.out)⟩)
                   · replace c104 := Bool.eq_false_iff.mpr c104; subst c104; (replace H : (if x12_41 = true then (taliklaw03_CoolBroken.l1 kj86 l3 t654 t655 t671 0) else ((taliklaw03_known.f kj86).bind fun t695 => (some t695))) = some r := by rw [if_neg (show ¬ (false = true) by decide)] at H; exact H); by_cases c105 : x12_41 = true
                     · subst c105; (replace H : (taliklaw03_CoolBroken.l1 kj86 l3 t654 t655 t671 0) = some r := by rw [if_pos rfl] at H; exact H); have H' := Aside0.mk H; clear H; go_wp2; (go_loopg [18] kj86 (fun kq v18 w' => ∃ (x18_6 : Int), v18 = .int .i64 x18_6 ∧ Aside0 (taliklaw03_CoolBroken.l1 kq l3 t654 t655 t671 x18_6 = some r) ∧ Aside0 (kq ≤ kj86) ∧ Aside0 (Kd.R (Kd.int .i64) 3 w' w.heap.size (fun k_ => some k_ ≠ (v672 : Value).ownBlock) (.slice Ao89 t655.length co89) t655) ∧ Aside0 (Kd.R (Kd.int .i64) 3 w' w.heap.size (fun k_ => some k_ ≠ ((.slice Ao89 t655.length co89) : Value).ownBlock) v672 t671) ∧ Aside0 (w'.heap[gb648]? = some (.cells #[(.slice A0_0 l0_0.length c0_0), (.slice A0_1 l0_1.length c0_1)] 25 (0, 0))) ∧ Aside0 (Below w.heap.size w w'))); (case atStart => exact ⟨(0), (by first | rfl | (simp; done) | (simp [*]; done)), H', ⟨Nat.le_refl _⟩, ⟨by (with_reducible repeat (first | apply Kd.R_alloc | apply Kd.R_drewN | apply Kd.R_drew)); exact HO_10.out⟩, ⟨by (with_reducible repeat (first | apply Kd.R_alloc | apply Kd.R_drewN | apply Kd.R_drew)); exact HO_13.out⟩, ⟨by (with_reducible repeat (first | refine blk_drewN ?_ _ | refine blk_drew ?_ | refine blk_alloc ?_ _)); exact BK648.out⟩, ⟨by repeat (first | (with_reducible first | exact HB.out | apply below_alloc | apply pw_below_drewN | apply below_drew1 | refine below_set ?_ GE648.out) | exact HB.out)⟩⟩)
                       case round =>
                        clear H'; (try clear c1); (try clear c3); (try clear c38); (try clear c63); (try clear c64); (try clear c64b0); (try clear c64b1); (try clear c83); (try clear c104); (try clear c105); (try clear hcz43_0); (try clear hcz43_1); (try clear hfz43_0); (try clear hfz43_1); obtain ⟨x18_6, rfl, HA, HK6, HO_10, HO_13, BK648, HB⟩ := hrel
                        cases gk with
                        | zero => exact absurd HA.out (by simp [taliklaw03_CoolBroken.l1])
                        | succ k6 =>
                         have H := HA.out; clear HA; simp only [taliklaw03_CoolBroken.l1] at H; by_cases c106 : x18_6 < t654
                         · rw [if_pos c106] at H; have c106b0 : decide (x18_6 < t654) = true := decide_eq_true c106; clear c106; by_cases c107 : 0 ≤ x18_6
                           · rw [if_pos c107] at H; have c107b0 : decide (0 ≤ x18_6) = true := decide_eq_true c107; clear c107; by_cases c108 : x18_6 < (t671.length : Int)
                             · rw [if_pos c108] at H; have c108b0 : decide (x18_6 < (t671.length : Int)) = true := decide_eq_true c108; clear c108; by_cases c109 : (rd t671 x18_6) < 0
                               · rw [if_pos c109] at H; have c109b0 : decide ((rd t671 x18_6) < 0) = true := decide_eq_true c109; clear c109; obtain rfl := Option.some.inj H; obtain ⟨Ao110, co110, eo110⟩ := Kd.R_slice HO_13.out; subst eo110; (have p696 : 0 ≤ (x18_6 : Int) := of_decide_eq_true (by first | (with_reducible assumption) | assumption)); (have q696 : x18_6 < (t671.length : Int) := of_decide_eq_true (by first | (with_reducible assumption) | assumption)); obtain ⟨ad696, e696, hx696_0⟩ := Kd.at_int (Kd.R_reads' HO_13.out).2.2 x18_6 p696 q696; cases e696; replace p696 := eq_true p696; replace q696 := eq_true q696; go_wp2; go_ret; (exact ⟨by first | rfl | (simp [errW_none, errW_some] <;> rfl) | (simp [*, errW_none, errW_some] <;> rfl), by repeat (first | (with_reducible first | exact HB.out | apply below_alloc | apply pw_below_drewN | apply below_drew1 | refine below_set ?_ GE648.out) | exact HB.out)⟩)
                               · rw [if_neg c109] at H; have c109b0 : decide ((rd t671 x18_6) < 0) = false := decide_eq_false c109; clear c109; have H' := Aside0.mk H; clear H; obtain ⟨Ao111, co111, eo111⟩ := Kd.R_slice HO_13.out; subst eo111; (have p696 : 0 ≤ (x18_6 : Int) := of_decide_eq_true (by first | (with_reducible assumption) | assumption)); (have q696 : x18_6 < (t671.length : Int) := of_decide_eq_true (by first | (with_reducible assumption) | assumption)); obtain ⟨ad696, e696, hx696_0⟩ := Kd.at_int (Kd.R_reads' HO_13.out).2.2 x18_6 p696 q696; cases e696; replace p696 := eq_true p696; replace q696 := eq_true q696; go_wp2; go_roundg k6; (case measure => have := HJ4.out; have := HJ41.out; have := HJ51.out; have := HJ64.out; have := HJ86.out; have := HK6.out; omega); (case rel => exact ⟨(wrap64 (x18_6 + 1)), (by first | rfl | (simp; done) | (simp [*]; done)), H', ⟨by have := HJ4.out; have := HJ41.out; have := HJ51.out; have := HJ64.out; have := HJ86.out; have := HK6.out; omega⟩, ⟨by (with_reducible repeat (first | apply Kd.R_alloc | apply Kd.R_drewN | apply Kd.R_drew)); exact HO_10.out⟩, ⟨by (with_reducible repeat (first | apply Kd.R_alloc | apply Kd.R_drewN | apply Kd.R_drew)); exact HO_13.out⟩, ⟨by (with_reducible repeat (first | refine blk_drewN ?_ _ | refine blk_drew ?_ | refine blk_alloc ?_ _)); exact BK648.out⟩, ⟨by repeat (first | (with_reducible first | exact HB.out | apply below_alloc | apply pw_below_drewN | apply below_drew1 | refine below_set ?_ GE648.out) | exact HB.out)⟩⟩)
                             · rw [if_neg c108] at H; (exact absurd H (by simp))
                           · rw [if_neg c107] at H; (exact absurd H (by simp))
                         · rw [if_neg c106] at H; have c106b0 : decide (x18_6 < t654) = false := decide_eq_false c106; clear c106; by_cases c112 : 0 ≤ t654
                           · rw [if_pos c112] at H; have c112b0 : decide (0 ≤ t654) = true := decide_eq_true c112; clear c112; by_cases c113 : t654 < (t671.length : Int)
                             · rw [if_pos c113] at H; have c113b0 : decide (t654 < (t671.length : Int)) = true := decide_eq_true c113; clear c113; by_cases c114 : (rd t671 t654) ≥ 0
                               · rw [if_pos c114] at H; have c114b0 : decide (0 ≤ (rd t671 t654)) = true := decide_eq_true c114; clear c114; obtain ⟨t698, A1150, H⟩ := Option.bind_eq_some_iff.mp H; replace H : (some t698) = some r := H; have A115 := Aside0.mk A1150; clear A1150; obtain rfl := Option.some.inj H; obtain ⟨Ao116, co116, eo116⟩ := Kd.R_slice HO_13.out; subst eo116; (have p697 : 0 ≤ (t654 : Int) := of_decide_eq_true (by first | (with_reducible assumption) | assumption)); (have q697 : t654 < (t671.length : Int) := of_decide_eq_true (by first | (with_reducible assumption) | assumption)); obtain ⟨ad697, e697, hx697_0⟩ := Kd.at_int (Kd.R_reads' HO_13.out).2.2 t654 p697 q697; cases e697; replace p697 := eq_true p697; replace q697 := eq_true q697; (go_wp2_with (first | (go_at_call 14; (with_reducible refine (taliklaw03_known.calls k6  t698 _ A115.out).mono ?_); rintro e w117 ⟨rfl, hb⟩; have n0_ := Aside0.mk (Kd.R_below (by (with_reducible repeat (first | apply Kd.R_alloc | apply Kd.R_drewN | apply Kd.R_drew)); exact HO_10.out) hb); have n1_ := Aside0.mk (Kd.R_below (by (with_reducible repeat (first | apply Kd.R_alloc | apply Kd.R_drewN | apply Kd.R_drew)); exact HO_13.out) hb); have n2_ := Aside0.mk (blk_below (g := gb648) (o := .cells #[.slice A0_0 l0_0.length c0_0, .slice A0_1 l0_1.length c0_1] 25 (0, 0)) (by (with_reducible repeat (first | refine blk_drewN ?_ _ | refine blk_drew ?_ | refine blk_alloc ?_ _)); exact BK648.out) hb); have n3_ := Aside0.mk (below_step (by repeat (first | (with_reducible first | exact HB.out | apply below_alloc | apply pw_below_drewN | apply below_drew1 | refine below_set ?_ GE648.out) | exact HB.out)) hb); clear HO_10; clear HO_13; clear BK648; clear HB; have HO_10 := n0_; have HO_13 := n1_; have BK648 := n2_; have HB := n3_; clear n0_ n1_ n2_ n3_; (try clear hb); (try clear hb2); (try clear hk); (try clear hi)))); go_ret; (exact ⟨by first | rfl | (simp [errW_none, errW_some] <;> rfl) | (simp [*, errW_none, errW_some] <;> rfl), by repeat (first | (with_reducible first | exact HB.out | apply below_alloc | apply pw_below_drewN | apply below_drew1 | refine below_set ?_ GE648.out) | exact HB.out)⟩)
                               · rw [if_neg c114] at H; have c114b0 : decide (0 ≤ (rd t671 t654)) = false := decide_eq_false c114; clear c114; by_cases c118 : (l3.length : Int) > (t655.length : Int)
                                 · rw [if_pos c118] at H; have c118b0 : decide ((t655.length : Int) < (l3.length : Int)) = true := decide_eq_true c118; have c118b1 : decide (t655.length < l3.length) = true := decide_eq_true (Int.ofNat_lt.mp c118); clear c118; obtain ⟨t699, A1190, H⟩ := Option.bind_eq_some_iff.mp H; replace H : (some t699) = some r := H; have A119 := Aside0.mk A1190; clear A1190; obtain rfl := Option.some.inj H; obtain ⟨Ao120, co120, eo120⟩ := Kd.R_slice HO_13.out; subst eo120; (have p697 : 0 ≤ (t654 : Int) := of_decide_eq_true (by first | (with_reducible assumption) | assumption)); (have q697 : t654 < (t671.length : Int) := of_decide_eq_true (by first | (with_reducible assumption) | assumption)); obtain ⟨ad697, e697, hx697_0⟩ := Kd.at_int (Kd.R_reads' HO_13.out).2.2 t654 p697 q697; cases e697; replace p697 := eq_true p697; replace q697 := eq_true q697; (go_wp2_with (first | (go_at_call 14; (with_reducible refine (taliklaw03_known.calls k6  t699 _ A119.out).mono ?_); rintro e w121 ⟨rfl, hb⟩; have n0_ := Aside0.mk (Kd.R_below (by (with_reducible repeat (first | apply Kd.R_alloc | apply Kd.R_drewN | apply Kd.R_drew)); exact HO_10.out) hb); have n1_ := Aside0.mk (Kd.R_below (by (with_reducible repeat (first | apply Kd.R_alloc | apply Kd.R_drewN | apply Kd.R_drew)); exact HO_13.out) hb); have n2_ := Aside0.mk (blk_below (g := gb648) (o := .cells #[.slice A0_0 l0_0.length c0_0, .slice A0_1 l0_1.length c0_1] 25 (0, 0)) (by (with_reducible repeat (first | refine blk_drewN ?_ _ | refine blk_drew ?_ | refine blk_alloc ?_ _)); exact BK648.out) hb); have n3_ := Aside0.mk (below_step (by repeat (first | (with_reducible first | exact HB.out | apply below_alloc | apply pw_below_drewN | apply below_drew1 | refine below_set ?_ GE648.out) | exact HB.out)) hb); clear HO_10; clear HO_13; clear BK648; clear HB; have HO_10 := n0_; have HO_13 := n1_; have BK648 := n2_; have HB := n3_; clear n0_ n1_ n2_ n3_; (try clear hb); (try clear hb2); (try clear hk); (try clear hi)))); go_ret; (exact ⟨by first | rfl | (simp [errW_none, errW_some] <;> rfl) | (simp [*, errW_none, errW_some] <;> rfl), by repeat (first | (with_reducible first | exact HB.out | apply below_alloc | apply pw_below_drewN | apply below_drew1 | refine below_set ?_ GE648.out) | exact HB.out)⟩)
                                 · rw [if_neg c118] at H; have c118b0 : decide ((t655.length : Int) < (l3.length : Int)) = false := decide_eq_false c118; (have c118b1 : decide (t655.length < l3.length) = false := decide_eq_false (fun h => c118 (Int.ofNat_lt.mpr h))); clear c118; by_cases c122 : (l3.length : Int) = (t655.length : Int)
                                   · rw [if_pos c122] at H; have c122b0 : ((l3.length : Int) == (t655.length : Int)) = true := beq_iff_eq.mpr c122; have c122b1 : ((l3.length : Int) != (t655.length : Int)) = false := bne_eq_false_iff_eq.mpr c122; (have c122b2 : (l3.length == t655.length) = true := by first | simpa using c122 | (simp at c122 ⊢; omega)); clear c122; obtain ⟨t700, A1230, H⟩ := Option.bind_eq_some_iff.mp H; (replace H : (if t700 = true then (some false) else ((taliklaw03_known.f k6).bind fun t701 => (some t701))) = some r := H); have A123 := Aside0.mk A1230; clear A1230; by_cases c124 : t700 = true
                                     · subst c124; (replace H : (some false) = some r := by rw [if_pos rfl] at H; exact H); obtain rfl := Option.some.inj H; obtain ⟨Ao125, co125, eo125⟩ := Kd.R_slice HO_13.out; subst eo125; (have p697 : 0 ≤ (t654 : Int) := of_decide_eq_true (by first | (with_reducible assumption) | assumption)); (have q697 : t654 < (t671.length : Int) := of_decide_eq_true (by first | (with_reducible assumption) | assumption)); obtain ⟨ad697, e697, hx697_0⟩ := Kd.at_int (Kd.R_reads' HO_13.out).2.2 t654 p697 q697; cases e697; replace p697 := eq_true p697; replace q697 := eq_true q697; (go_wp2_with (first | (go_at_call 25; (with_reducible refine (talikref03_Before.calls k6 _ _ l3 _ _ t655 true _ ?side1 ?side2 ?side3 ?side4 A123.out).mono ?_); (case side1 => repeat (first | exact (Kd.C_below HR3.out HB.out) | (with_reducible refine Kd.C_alloc ?_ _) | (with_reducible refine Kd.C_drewN ?_ _) | (with_reducible refine Kd.C_drew ?_))); (case side2 => exact HC3.out); (case side3 => repeat (first | exact (Kd.R_reads' HO_10.out).2.2 | (with_reducible refine Kd.C_alloc ?_ _) | (with_reducible refine Kd.C_drewN ?_ _) | (with_reducible refine Kd.C_drew ?_))); (case side4 => exact (Kd.R_reads' HO_10.out).2.1); rintro e w' ⟨rfl, ⟨nd, rfl⟩⟩))); go_ret; (exact ⟨by first | rfl | (simp [errW_none, errW_some] <;> rfl) | (simp [*, errW_none, errW_some] <;> rfl), by repeat (first | (with_reducible first | exact HB.out | apply below_alloc | apply pw_below_drewN | apply below_drew1 | refine below_set ?_ GE648.out) | exact HB.out)⟩)
                                     · replace c124 := Bool.eq_false_iff.mpr c124; subst c124; (replace H : ((taliklaw03_known.f k6).bind fun t701 => (some t701)) = some r := by rw [if_neg (show ¬ (false = true) by decide)] at H; exact H); obtain ⟨t701, A1260, H⟩ := Option.bind_eq_some_iff.mp H; replace H : (some t701) = some r := H; have A126 := Aside0.mk A1260; clear A1260; obtain rfl := Option.some.inj H; obtain ⟨Ao127, co127, eo127⟩ := Kd.R_slice HO_13.out; subst eo127; (have p697 : 0 ≤ (t654 : Int) := of_decide_eq_true (by first | (with_reducible assumption) | assumption)); (have q697 : t654 < (t671.length : Int) := of_decide_eq_true (by first | (with_reducible assumption) | assumption)); obtain ⟨ad697, e697, hx697_0⟩ := Kd.at_int (Kd.R_reads' HO_13.out).2.2 t654 p697 q697; cases e697; replace p697 := eq_true p697; replace q697 := eq_true q697; (go_wp2_with (first | (go_at_call 25; (with_reducible refine (talikref03_Before.calls k6 _ _ l3 _ _ t655 false _ ?side1 ?side2 ?side3 ?side4 A123.out).mono ?_); (case side1 => repeat (first | exact (Kd.C_below HR3.out HB.out) | (with_reducible refine Kd.C_alloc ?_ _) | (with_reducible refine Kd.C_drewN ?_ _) | (with_reducible refine Kd.C_drew ?_))); (case side2 => exact HC3.out); (case side3 => repeat (first | exact (Kd.R_reads' HO_10.out).2.2 | (with_reducible refine Kd.C_alloc ?_ _) | (with_reducible refine Kd.C_drewN ?_ _) | (with_reducible refine Kd.C_drew ?_))); (case side4 => exact (Kd.R_reads' HO_10.out).2.1); rintro e w' ⟨rfl, ⟨nd, rfl⟩⟩) | (go_at_call 14; (with_reducible refine (taliklaw03_known.calls k6  t701 _ A126.out).mono ?_); rintro e w128 ⟨rfl, hb⟩; have n0_ := Aside0.mk (Kd.R_below (by (with_reducible repeat (first | apply Kd.R_alloc | apply Kd.R_drewN | apply Kd.R_drew)); exact HO_10.out) hb); have n1_ := Aside0.mk (Kd.R_below (by (with_reducible repeat (first | apply Kd.R_alloc | apply Kd.R_drewN | apply Kd.R_drew)); exact HO_13.out) hb); have n2_ := Aside0.mk (blk_below (g := gb648) (o := .cells #[.slice A0_0 l0_0.length c0_0, .slice A0_1 l0_1.length c0_1] 25 (0, 0)) (by (with_reducible repeat (first | refine blk_drewN ?_ _ | refine blk_drew ?_ | refine blk_alloc ?_ _)); exact BK648.out) hb); have n3_ := Aside0.mk (below_step (by repeat (first | (with_reducible first | exact HB.out | apply below_alloc | apply pw_below_drewN | apply below_drew1 | refine below_set ?_ GE648.out) | exact HB.out)) hb); clear HO_10; clear HO_13; clear BK648; clear HB; have HO_10 := n0_; have HO_13 := n1_; have BK648 := n2_; have HB := n3_; clear n0_ n1_ n2_ n3_; (try clear hb); (try clear hb2); (try clear hk); (try clear hi)))); go_ret; (exact ⟨by first | rfl | (simp [errW_none, errW_some] <;> rfl) | (simp [*, errW_none, errW_some] <;> rfl), by repeat (first | (with_reducible first | exact HB.out | apply below_alloc | apply pw_below_drewN | apply below_drew1 | refine below_set ?_ GE648.out) | exact HB.out)⟩)
                                   · rw [if_neg c122] at H; have c122b0 : ((l3.length : Int) == (t655.length : Int)) = false := beq_eq_false_iff_ne.mpr c122; have c122b1 : ((l3.length : Int) != (t655.length : Int)) = true := bne_iff_ne.mpr c122; (have c122b2 : (l3.length == t655.length) = false := by first | simpa using c122 | (simp at c122 ⊢; omega)); obtain rfl := Option.some.inj H; obtain ⟨Ao129, co129, eo129⟩ := Kd.R_slice HO_13.out; subst eo129; (have p697 : 0 ≤ (t654 : Int) := of_decide_eq_true (by first | (with_reducible assumption) | assumption)); (have q697 : t654 < (t671.length : Int) := of_decide_eq_true (by first | (with_reducible assumption) | assumption)); obtain ⟨ad697, e697, hx697_0⟩ := Kd.at_int (Kd.R_reads' HO_13.out).2.2 t654 p697 q697; cases e697; replace p697 := eq_true p697; replace q697 := eq_true q697; go_wp2; go_ret; (exact ⟨by first | rfl | (simp [errW_none, errW_some] <;> rfl) | (simp [*, errW_none, errW_some] <;> rfl), by repeat (first | (with_reducible first | exact HB.out | apply below_alloc | apply pw_below_drewN | apply below_drew1 | refine below_set ?_ GE648.out) | exact HB.out)⟩)
                             · rw [if_neg c113] at H; (exact absurd H (by simp))
                           · rw [if_neg c112] at H; (exact absurd H (by simp))
                     · replace c105 := Bool.eq_false_iff.mpr c105; subst c105; (replace H : ((taliklaw03_known.f kj86).bind fun t695 => (some t695)) = some r := by rw [if_neg (show ¬ (false = true) by decide)] at H; exact H); obtain ⟨t695, A1300, H⟩ := Option.bind_eq_some_iff.mp H; replace H : (some t695) = some r := H; have A130 := Aside0.mk A1300; clear A1300; obtain rfl := Option.some.inj H; (go_wp2_with (first | ((with_reducible refine gate_callee (f := 14) rfl ?_); refine goesL_ (some 177) rfl rfl Try.func14 (by kernel_rfl) rfl #[] rfl (by (try simp only [List.map_toArray, List.map_cons, List.map_nil]); first | done | rfl | (simp only [List.length_drop, List.length_take]; rfl)) ?_; (with_reducible refine (taliklaw03_known.calls kj86  t695 _ A130.out).mono ?_); rintro e w131 ⟨rfl, hb⟩; refine ⟨_, rfl, ?_⟩; have n0_ := Aside0.mk (Kd.R_below (by (with_reducible repeat (first | apply Kd.R_alloc | apply Kd.R_drewN | apply Kd.R_drew)); exact HO_10.out) hb); have n1_ := Aside0.mk (Kd.R_below (by (with_reducible repeat (first | apply Kd.R_alloc | apply Kd.R_drewN | apply Kd.R_drew)); exact HO_13.out) hb); have n2_ := Aside0.mk (blk_below (g := gb648) (o := .cells #[.slice A0_0 l0_0.length c0_0, .slice A0_1 l0_1.length c0_1] 25 (0, 0)) (by (with_reducible repeat (first | refine blk_drewN ?_ _ | refine blk_drew ?_ | refine blk_alloc ?_ _)); exact BK648.out) hb); have n3_ := Aside0.mk (below_step (by repeat (first | (with_reducible first | exact HB.out | apply below_alloc | apply pw_below_drewN | apply below_drew1 | refine below_set ?_ GE648.out) | exact HB.out)) hb); clear HO_10; clear HO_13; clear BK648; clear HB; have HO_10 := n0_; have HO_13 := n1_; have BK648 := n2_; have HB := n3_; clear n0_ n1_ n2_ n3_; (try clear hb); (try clear hb2); (try clear hk); (try clear hi)))); go_ret; (exact ⟨by first | rfl | (simp [errW_none, errW_some] <;> rfl) | (simp [*, errW_none, errW_some] <;> rfl), by repeat (first | (with_reducible first | exact HB.out | apply below_alloc | apply pw_below_drewN | apply below_drew1 | refine below_set ?_ GE648.out) | exact HB.out)⟩)
           · rw [if_neg c64] at H; have c64b0 : (t658 == 0) = false := beq_eq_false_iff_ne.mpr c64; have c64b1 : (t658 != 0) = true := bne_iff_ne.mpr c64; have H' := Aside0.mk H; clear H; go_wp2; (go_loopg [15] kj51 (fun kq v15 w' => ∃ (x15_4 : Int), v15 = .int .i64 x15_4 ∧ Aside0 (taliklaw03_CoolBroken.l0 kq t658 x12_41 t671 x15_4 = some r) ∧ Aside0 (kq ≤ kj51) ∧ Aside0 (Kd.R (Kd.int .i64) 3 w' w.heap.size (fun _ => True) v672 t671) ∧ Aside0 (w'.heap[gb648]? = some (.cells #[(.slice A0_0 l0_0.length c0_0), (.slice A0_1 l0_1.length c0_1)] 25 (0, 0))) ∧ Aside0 (Below w.heap.size w w'))); (case atStart => exact ⟨(0), (by first | rfl | (simp; done) | (simp [*]; done)), H', ⟨Nat.le_refl _⟩, ⟨by (with_reducible repeat (first | apply Kd.R_alloc | apply Kd.R_drewN | apply Kd.R_drew)); exact Kd.R_mono HO_13.out (fun _ hk => trivial)⟩, ⟨by (with_reducible repeat (first | refine blk_drewN ?_ _ | refine blk_drew ?_ | refine blk_alloc ?_ _)); exact BK648.out⟩, ⟨by repeat (first | (with_reducible first | exact HB.out | apply below_alloc | apply pw_below_drewN | apply below_drew1 | refine below_set ?_ GE648.out) | exact HB.out)⟩⟩)
             case round =>
              clear H'; (try clear c1); (try clear c3); (try clear c38); (try clear c63); (try clear c64); (try clear c64b0); (try clear c64b1); (try clear hcz43_0); (try clear hcz43_1); (try clear hfz43_0); (try clear hfz43_1); obtain ⟨x15_4, rfl, HA, HK4, HO_13, BK648, HB⟩ := hrel
              cases gk with
              | zero => exact absurd HA.out (by simp [taliklaw03_CoolBroken.l0])
              | succ k4 =>
               have H := HA.out; clear HA; simp only [taliklaw03_CoolBroken.l0] at H; by_cases c132 : x15_4 < (t671.length : Int)
               · rw [if_pos c132] at H; have c132b0 : decide (x15_4 < (t671.length : Int)) = true := decide_eq_true c132; clear c132; by_cases c133 : x12_41 = true
                 · subst c133; (replace H : (if 0 ≤ x15_4 then (if (rd t671 x15_4) < 0 then (some false) else (taliklaw03_CoolBroken.l0 k4 t658 true t671 (wrap64 (x15_4 + 1)))) else (none)) = some r := by rw [if_pos rfl] at H; exact H); by_cases c134 : 0 ≤ x15_4
                   · rw [if_pos c134] at H; have c134b0 : decide (0 ≤ x15_4) = true := decide_eq_true c134; clear c134; by_cases c135 : (rd t671 x15_4) < 0
                     · rw [if_pos c135] at H; have c135b0 : decide ((rd t671 x15_4) < 0) = true := decide_eq_true c135; clear c135; obtain rfl := Option.some.inj H; obtain ⟨Ao136, co136, eo136⟩ := Kd.R_slice HO_13.out; subst eo136; (have p675 : 0 ≤ (x15_4 : Int) := of_decide_eq_true (by first | (with_reducible assumption) | assumption)); (have q675 : x15_4 < (t671.length : Int) := of_decide_eq_true (by first | (with_reducible assumption) | assumption)); obtain ⟨ad675, e675, hx675_0⟩ := Kd.at_int (Kd.R_reads' HO_13.out).2.2 x15_4 p675 q675; cases e675; replace p675 := eq_true p675; replace q675 := eq_true q675; go_wp2; go_ret; (exact ⟨by first | rfl | (simp [errW_none, errW_some] <;> rfl) | (simp [*, errW_none, errW_some] <;> rfl), by repeat (first | (with_reducible first | exact HB.out | apply below_alloc | apply pw_below_drewN | apply below_drew1 | refine below_set ?_ GE648.out) | exact HB.out)⟩)
                     · rw [if_neg c135] at H; have c135b0 : decide ((rd t671 x15_4) < 0) = false := decide_eq_false c135; clear c135; have H' := Aside0.mk H; clear H; obtain ⟨Ao137, co137, eo137⟩ := Kd.R_slice HO_13.out; subst eo137; (have p675 : 0 ≤ (x15_4 : Int) := of_decide_eq_true (by first | (with_reducible assumption) | assumption)); (have q675 : x15_4 < (t671.length : Int) := of_decide_eq_true (by first | (with_reducible assumption) | assumption)); obtain ⟨ad675, e675, hx675_0⟩ := Kd.at_int (Kd.R_reads' HO_13.out).2.2 x15_4 p675 q675; cases e675; replace p675 := eq_true p675; replace q675 := eq_true q675; go_wp2; go_roundg k4; (case measure => have := HJ4.out; have := HJ41.out; have := HJ51.out; have := HK4.out; omega); (case rel => exact ⟨(wrap64 (x15_4 + 1)), (by first | rfl | (simp; done) | (simp [*]; done)), H', ⟨by have := HJ4.out; have := HJ41.out; have := HJ51.out; have := HK4.out; omega⟩, ⟨by (with_reducible repeat (first | apply Kd.R_alloc | apply Kd.R_drewN | apply Kd.R_drew)); exact HO_13.out⟩, ⟨by (with_reducible repeat (first | refine blk_drewN ?_ _ | refine blk_drew ?_ | refine blk_alloc ?_ _)); exact BK648.out⟩, ⟨by repeat (first | (with_reducible first | exact HB.out | apply below_alloc | apply pw_below_drewN | apply below_drew1 | refine below_set ?_ GE648.out) | exact HB.out)⟩⟩)
                   · rw [if_neg c134] at H; (exact absurd H (by simp))
                 · replace c133 := Bool.eq_false_iff.mpr c133; subst c133; (replace H : (taliklaw03_CoolBroken.l0 k4 t658 false t671 (wrap64 (x15_4 + 1))) = some r := by rw [if_neg (show ¬ (false = true) by decide)] at H; exact H); have H' := Aside0.mk H; clear H; obtain ⟨Ao138, co138, eo138⟩ := Kd.R_slice HO_13.out; subst eo138; go_wp2; go_roundg k4; (case measure => have := HJ4.out; have := HJ41.out; have := HJ51.out; have := HK4.out; omega); (case rel => exact ⟨(wrap64 (x15_4 + 1)), (by first | rfl | (simp; done) | (simp [*]; done)), H', ⟨by have := HJ4.out; have := HJ41.out; have := HJ51.out; have := HK4.out; omega⟩, ⟨by (with_reducible repeat (first | apply Kd.R_alloc | apply Kd.R_drewN | apply Kd.R_drew)); exact HO_13.out⟩, ⟨by (with_reducible repeat (first | refine blk_drewN ?_ _ | refine blk_drew ?_ | refine blk_alloc ?_ _)); exact BK648.out⟩, ⟨by repeat (first | (with_reducible first | exact HB.out | apply below_alloc | apply pw_below_drewN | apply below_drew1 | refine below_set ?_ GE648.out) | exact HB.out)⟩⟩)
               · rw [if_neg c132] at H; have c132b0 : decide (x15_4 < (t671.length : Int)) = false := decide_eq_false c132; clear c132; by_cases c139 : t658 = 6
                 · rw [if_pos c139] at H; have c139b0 : (t658 == 6) = true := beq_iff_eq.mpr c139; have c139b1 : (t658 != 6) = false := bne_eq_false_iff_eq.mpr c139; clear c139; obtain ⟨t676, A1400, H⟩ := Option.bind_eq_some_iff.mp H; replace H : (some t676) = some r := H; have A140 := Aside0.mk A1400; clear A1400; obtain rfl := Option.some.inj H; obtain ⟨Ao141, co141, eo141⟩ := Kd.R_slice HO_13.out; subst eo141; (go_wp2_with (first | (go_at_call 14; (with_reducible refine (taliklaw03_known.calls k4  t676 _ A140.out).mono ?_); rintro e w142 ⟨rfl, hb⟩; have n0_ := Aside0.mk (Kd.R_below (by (with_reducible repeat (first | apply Kd.R_alloc | apply Kd.R_drewN | apply Kd.R_drew)); exact HO_13.out) hb); have n1_ := Aside0.mk (blk_below (g := gb648) (o := .cells #[.slice A0_0 l0_0.length c0_0, .slice A0_1 l0_1.length c0_1] 25 (0, 0)) (by (with_reducible repeat (first | refine blk_drewN ?_ _ | refine blk_drew ?_ | refine blk_alloc ?_ _)); exact BK648.out) hb); have n2_ := Aside0.mk (below_step (by repeat (first | (with_reducible first | exact HB.out | apply below_alloc | apply pw_below_drewN | apply below_drew1 | refine below_set ?_ GE648.out) | exact HB.out)) hb); clear HO_13; clear BK648; clear HB; have HO_13 := n0_; have BK648 := n1_; have HB := n2_; clear n0_ n1_ n2_; (try clear hb); (try clear hb2); (try clear hk); (try clear hi)))); go_ret; (exact ⟨by first | rfl | (simp [errW_none, errW_some] <;> rfl) | (simp [*, errW_none, errW_some] <;> rfl), by repeat (first | (with_reducible first | exact HB.out | apply below_alloc | apply pw_below_drewN | apply below_drew1 | refine below_set ?_ GE648.out) | exact HB.out)⟩)
                 · rw [if_neg c139] at H; have c139b0 : (t658 == 6) = false := beq_eq_false_iff_ne.mpr c139; have c139b1 : (t658 != 6) = true := bne_iff_ne.mpr c139; obtain rfl := Option.some.inj H; obtain ⟨Ao143, co143, eo143⟩ := Kd.R_slice HO_13.out; subst eo143; go_wp2; go_ret; (exact ⟨by first | rfl | (simp [errW_none, errW_some] <;> rfl) | (simp [*, errW_none, errW_some] <;> rfl), by repeat (first | (with_reducible first | exact HB.out | apply below_alloc | apply pw_below_drewN | apply below_drew1 | refine below_set ?_ GE648.out) | exact HB.out)⟩)
end Go.Proofs.Ytmkdllaagaimlaa.C
end
section
namespace Go.Proofs.Ytmkdllaagaimlaa.C
open Go.RowKit Go.Proofs.YtmkdllaagaimlaaW.PrintWords Go.Proofs.YtmkdllaagaimlaaW.PrintLast Go.Proofs.YtmkdllaagaimlaaW.PrintMore
set_option linter.unusedVariables false
set_option linter.unusedSimpArgs false
theorem w1 {i : Nat} (h : i < 9223372036854775807) : wrap64 ((i : Int) + 1) = ((i + 1 : Nat) : Int) := by rw [wrap64_of _ (by omega) (by omega)]; omega
theorem rd_at {l : List Int} {i : Nat} (h : i < l.length) : rd l (i : Int) = l[i] := by simp [rd, List.getD_eq_getElem?_getD, List.getElem?_eq_getElem h]
theorem in_f (x a b : Int) : talikref03_in.f x a b = some (decide (a ≤ x) && decide (x ≤ b)) := by
 unfold talikref03_in.f; by_cases h : x ≥ a
 · rw [if_pos h]; simp [show a ≤ x from h]
 · rw [if_neg h]; simp [show ¬ a ≤ x from h]
theorem Cold_f (a b : Int) : talikref03_Cold.f a b = some (spanB ⟨a, b⟩) := by
 unfold talikref03_Cold.f spanB; by_cases h : a ≥ 0
 · rw [if_pos h]; by_cases h2 : a ≤ b
   · rw [if_pos h2]; simp [show (0 : Int) ≤ a from h, h2]
   · rw [if_neg h2]; simp [h2]
 · rw [if_neg h]; simp [show ¬ (0 : Int) ≤ a from h]
theorem drop_at {l : List Int} {i : Nat} (h : i < l.length) : ∃ x, rd l (i : Int) = x ∧ l.drop i = x :: l.drop (i + 1) := ⟨_, rfl, rd_drop h⟩
theorem has_l0 (l : List Int) (a : Int) (hl : l.length ≤ 9223372036854775807) : ∀ d i : Nat, i + d = l.length → Ev (fun k => talikref03_Has.l0 k l a i) (decide (a ∈ l.drop i)) := by
 intro d
 induction d with
 | zero =>
  intro i hi; (refine Ev.step (f := fun _ => some false) (fun k => ?_) ?_)
  · simp only [talikref03_Has.l0]; rw [if_neg (by omega)]
  · rw [List.drop_eq_nil_of_le (by omega)]; exact Ev.now _
 | succ d ih =>
  intro i hi; (have hlt : i < l.length := by omega); obtain ⟨x, hx, hd⟩ := drop_at hlt; rw [hd]; by_cases he : x = a
  · refine Ev.step (f := fun _ => some true) (fun k => ?_) ?_
    · simp only [talikref03_Has.l0]; rw [if_pos (by omega), if_pos (by omega), hx, if_pos he]
    · simp [he]; exact Ev.now _
  · refine Ev.step (f := fun k => talikref03_Has.l0 k l a ((i + 1 : Nat) : Int)) (fun k => ?_) ?_
    · simp only [talikref03_Has.l0]; rw [if_pos (by omega), if_pos (by omega), hx, if_neg he, w1 (by omega)]
    · have : decide (a ∈ x :: l.drop (i + 1)) = decide (a ∈ l.drop (i + 1)) := by
       simp [show ¬ a = x from fun e => he e.symm]
      rw [this]; exact ih (i + 1) (by omega)
theorem Has_ev (l : List Int) (a : Int) (hl : l.length ≤ 9223372036854775807) : Ev (fun k => talikref03_Has.f k l a) (decide (a ∈ l)) := by
 (have := has_l0 l a hl l.length 0 (by omega)); simpa [talikref03_Has.f] using this
def wo (l c : List Int) : List Int := l.filter fun x => !decide (x ∈ c)
theorem without_l0 (l c : List Int) (hl : l.length ≤ 1000) (hc : c.length ≤ 1000) : ∀ (d i : Nat) (acc : List Int), i + d = l.length → acc.length ≤ i → Ev (fun k => talikref03_Without.l0 k l c acc i) (acc ++ wo (l.drop i) c) := by
 intro d
 induction d with
 | zero =>
  intro i acc hi _; (refine Ev.step (f := fun _ => some acc) (fun k => ?_) ?_)
  · simp only [talikref03_Without.l0]; rw [if_neg (by omega)]
  · rw [List.drop_eq_nil_of_le (by omega)]; simp [wo]; exact Ev.now _
 | succ d ih =>
  intro i acc hi ha; (have hlt : i < l.length := by omega); obtain ⟨x, hx, hd⟩ := drop_at hlt; (have hh := Has_ev c x (by omega)); rw [hd]; (refine Ev.step (f := fun k => (talikref03_Has.f k c x).bind fun t => if t = true then talikref03_Without.l0 k l c acc ((i + 1 : Nat) : Int) else talikref03_Without.l0 k l c (acc ++ [x]) ((i + 1 : Nat) : Int)) (fun k => ?_) (Ev.bind hh ?_))
  · (simp only [talikref03_Without.l0]; rw [if_pos (by omega), if_pos (by omega), hx, w1 (by omega)]); (simp only [show acc.length < 17592186044416 by omega, if_true])
  · by_cases hm : x ∈ c
    · simp only [hm, decide_true, if_true]; (have e : wo (x :: l.drop (i + 1)) c = wo (l.drop (i + 1)) c := by simp [wo, hm]); (rw [e]; exact ih (i + 1) acc (by omega) (by omega))
    · simp only [hm, decide_false, if_false, Bool.false_eq_true]; (have e : acc ++ wo (x :: l.drop (i + 1)) c = (acc ++ [x]) ++ wo (l.drop (i + 1)) c := by simp [wo, hm]); (rw [e]; exact ih (i + 1) _ (by omega) (by simp; omega))
theorem Without_ev (l c : List Int) (hl : l.length ≤ 1000) (hc : c.length ≤ 1000) : Ev (fun k => talikref03_Without.f k l c) (wo l c) := by
 (have := without_l0 l c hl hc l.length 0 [] (by omega) (by simp)); simpa [talikref03_Without.f] using this
def shortB (H : List S60) (S : List S64) : Bool := (S.take 15).all (fun s => decide (s.f2.length ≤ 10)) && (decide (H.length ≤ 10) && decide (S.length ≤ 15))
theorem rd64_at {S : List S64} {i : Nat} (h : i < S.length) : rd_T64 S (i : Int) = S[i] := by simp [rd_T64, List.getD_eq_getElem?_getD, List.getElem?_eq_getElem h]
theorem rd60_at {S : List S60} {i : Nat} (h : i < S.length) : rd_T60 S (i : Int) = S[i] := by simp [rd_T60, List.getD_eq_getElem?_getD, List.getElem?_eq_getElem h]
theorem rd58_at {S : List S58} {i : Nat} (h : i < S.length) : rd_T58 S (i : Int) = S[i] := by simp [rd_T58, List.getD_eq_getElem?_getD, List.getElem?_eq_getElem h]
theorem short_l0 (H : List S60) (S : List S64) (hS : S.length ≤ 9223372036854775807) : ∀ d i : Nat, i + d = 15 → (i ≤ S.length) → Ev (fun k => taliklaw03_short.l0 k i H S) (((S.drop i).take d).all (fun s => decide (s.f2.length ≤ 10)) && (decide (H.length ≤ 10) && decide (S.length ≤ 15))) := by
 have fin : Ev (fun (_ : Nat) => if (H.length : Int) ≤ 10 then some (decide ((S.length : Int) ≤ 15)) else some false) (decide (H.length ≤ 10) && decide (S.length ≤ 15)) := by
  (refine ⟨0, fun _ _ => ?_⟩); by_cases h : H.length ≤ 10
  · (rw [if_pos (by omega)]); simp only [h, decide_true, Bool.true_and, Option.some.injEq]; rw [decide_eq_decide]; omega
  · rw [if_neg (by omega)]; simp [h]
 intro d
 induction d with
 | zero =>
  intro i hi hiS; (refine Ev.step (f := fun k => taliklaw03_short.j1 k i false H S) (fun k => ?_) (Ev.step (f := fun _ => if (H.length : Int) ≤ 10 then some (decide ((S.length : Int) ≤ 15)) else some false) (fun k => ?_) (by simpa using fin)))
  · simp only [taliklaw03_short.l0]; by_cases h : (i : Int) < (S.length : Int)
    · rw [if_pos h, decide_eq_false (by omega)]
    · rw [if_neg h]
  · simp only [taliklaw03_short.j1]; rw [if_neg (by simp)]
 | succ d ih =>
  intro i hi hiS; by_cases hlt : i < S.length
  · have hd : S.drop i = S[i] :: S.drop (i + 1) := List.drop_eq_getElem_cons hlt; obtain ⟨x, hx⟩ : ∃ x, S[i] = x := ⟨_, rfl⟩; rw [hx] at hd; rw [hd, List.take_succ_cons, List.all_cons]; by_cases hg : x.f2.length ≤ 10
    · refine Ev.step (f := fun k => taliklaw03_short.j1 k i true H S) (fun k => ?_) (Ev.step (f := fun k => taliklaw03_short.l0 k ((i + 1 : Nat) : Int) H S) (fun k => ?_) ?_)
      · simp only [taliklaw03_short.l0]; rw [if_pos (by omega), decide_eq_true (by omega)]
      · simp only [taliklaw03_short.j1]; rw [if_pos trivial, if_pos (by omega), if_pos (by omega), rd64_at hlt, hx, if_neg (by omega), w1 (by omega)]
      · simp only [hg, decide_true, Bool.true_and]; (exact ih (i + 1) (by omega) (by omega))
    · refine Ev.step (f := fun k => taliklaw03_short.j1 k i true H S) (fun k => ?_) (Ev.step (f := fun _ => some false) (fun k => ?_) ?_)
      · simp only [taliklaw03_short.l0]; rw [if_pos (by omega), decide_eq_true (by omega)]
      · simp only [taliklaw03_short.j1]; rw [if_pos trivial, if_pos (by omega), if_pos (by omega), rd64_at hlt, hx, if_pos (by omega)]
      · simp only [hg, decide_false, Bool.false_and]; exact Ev.now _
  · refine Ev.step (f := fun k => taliklaw03_short.j1 k i false H S) (fun k => ?_) (Ev.step (f := fun _ => if (H.length : Int) ≤ 10 then some (decide ((S.length : Int) ≤ 15)) else some false) (fun k => ?_) (by rw [List.drop_eq_nil_of_le (by omega)]; simpa using fin))
    · simp only [taliklaw03_short.l0]; rw [if_neg (by omega)]
    · simp only [taliklaw03_short.j1]; rw [if_neg (by simp)]
theorem short_ev (H : List S60) (S : List S64) (hS : S.length ≤ 9223372036854775807) : Ev (fun k => taliklaw03_short.f k H S) (shortB H S) := by
 have := short_l0 H S hS 15 0 rfl (Nat.zero_le _); simpa [taliklaw03_short.f, shortB] using this
theorem all_bool (b c : Bool) (g : Nat → Option Bool) (h : Ev g c) : Ev (fun k => if b = true then g k else some false) (b && c) := by
 cases b with
 | true => simpa using h
 | false => exact ⟨0, fun _ _ => by simp⟩
theorem town_l2 (H : List S60) (S : List S64) (i : Nat) (a b : Int) (G : List S58) (hG : G.length ≤ 9223372036854775807) (r : Bool) (hr : Ev (fun k => talikref03_Town.l1 k (wrap64 ((i : Int) + 1)) H S) r) : ∀ d j : Nat, j + d = G.length → Ev (fun k => talikref03_Town.l2 k i j H S a b G) ((G.drop j).all spanB && r) := by
 intro d
 induction d with
 | zero =>
  intro j hj; (refine Ev.step (f := fun k => talikref03_Town.l1 k (wrap64 ((i : Int) + 1)) H S) (fun k => ?_) ?_)
  · simp only [talikref03_Town.l2]; rw [if_neg (by omega)]
  · rw [List.drop_eq_nil_of_le (by omega)]; simpa using hr
 | succ d ih =>
  intro j hj; (have hlt : j < G.length := by omega); have hd : G.drop j = G[j] :: G.drop (j + 1) := List.drop_eq_getElem_cons hlt; obtain ⟨x, hx⟩ : ∃ x, G[j] = x := ⟨_, rfl⟩; rw [hx] at hd; rw [hd, List.all_cons, Bool.and_assoc]; (refine Ev.step (f := fun k => if spanB x = true then talikref03_Town.l2 k i ((j + 1 : Nat) : Int) H S a b G else some false) (fun k => ?_) (all_bool _ _ _ (ih (j + 1) (by omega)))); (simp only [talikref03_Town.l2]; rw [if_pos (by omega), if_pos (by omega), rd58_at hlt, hx, Cold_f, w1 (by omega)]; rfl)
theorem town_l1 (H : List S60) (S : List S64) (hS : S.length ≤ 9223372036854775807) (hG : ∀ s ∈ S, s.f2.length ≤ 9223372036854775807) : ∀ d i : Nat, i + d = S.length → Ev (fun k => talikref03_Town.l1 k i H S) ((S.drop i).all (siteB H.length) && ((decide (1 ≤ H.length) && decide (H.length ≤ 6)) && (decide (1 ≤ S.length) && decide (S.length ≤ 10)))) := by
 intro d
 induction d with
 | zero =>
  intro i hi; (refine Ev.step (f := fun _ => some ((decide (1 ≤ H.length) && decide (H.length ≤ 6)) && (decide (1 ≤ S.length) && decide (S.length ≤ 10)))) (fun k => ?_) ?_)
  · (simp only [talikref03_Town.l1]; rw [if_neg (by omega), in_f, in_f]); simp only [Option.bind_some]; (have e1 : (decide ((1 : Int) ≤ (H.length : Int)) && decide ((H.length : Int) ≤ 6)) = (decide (1 ≤ H.length) && decide (H.length ≤ 6)) := by rw [Bool.eq_iff_iff]; simp; omega); (have e2 : (decide ((1 : Int) ≤ (S.length : Int)) && decide ((S.length : Int) ≤ 10)) = (decide (1 ≤ S.length) && decide (S.length ≤ 10)) := by rw [Bool.eq_iff_iff]; simp; omega); rw [e1, e2]; (cases (decide (1 ≤ H.length) && decide (H.length ≤ 6)) <;> simp)
  · rw [List.drop_eq_nil_of_le (by omega)]; simp only [List.all_nil, Bool.true_and]; exact Ev.now _
 | succ d ih =>
  intro i hi; (have hlt : i < S.length := by omega); have hd : S.drop i = S[i] :: S.drop (i + 1) := List.drop_eq_getElem_cons hlt; have hxm : S[i] ∈ S := List.getElem_mem hlt; obtain ⟨x, hx⟩ : ∃ x, S[i] = x := ⟨_, rfl⟩; rw [hx] at hd hxm; rw [hd, List.all_cons]; (have h2 := town_l2 H S i x.f0 x.f1 x.f2 (hG x hxm) _ (by rw [w1 (by omega)]; exact ih (i + 1) (by omega)) x.f2.length 0 (by omega))
  have hj : ∀ b : Bool, Ev (fun k => talikref03_Town.j2 k i b H S x.f0 x.f1 x.f2) (!b && (x.f2.all spanB && ((S.drop (i + 1)).all (siteB H.length) && ((decide (1 ≤ H.length) && decide (H.length ≤ 6)) && (decide (1 ≤ S.length) && decide (S.length ≤ 10)))))) := by
   intro b
   cases b with
   | true => exact Ev.step (f := fun _ => some false) (fun k => by simp [talikref03_Town.j2]) (Ev.now _)
   | false => exact Ev.step (f := fun k => talikref03_Town.l2 k i 0 H S x.f0 x.f1 x.f2) (fun k => by simp [talikref03_Town.j2]) (by simpa using h2)
  obtain ⟨b1, hb1⟩ : ∃ b, (decide (0 ≤ x.f0) && decide (x.f0 ≤ 1000000)) = b := ⟨_, rfl⟩; obtain ⟨b2, hb2⟩ : ∃ b, (decide (1 ≤ x.f1) && decide (x.f1 ≤ 100)) = b := ⟨_, rfl⟩
  have e3 : ((x.f2.length : Int) != (H.length : Int)) = !decide (x.f2.length = H.length) := by
   rw [Bool.eq_iff_iff]; simp; omega
  have es : (siteB H.length x && ((S.drop (i + 1)).all (siteB H.length))) = (b1 && (b2 && (decide (x.f2.length = H.length) && (x.f2.all spanB && (S.drop (i + 1)).all (siteB H.length))))) := by
   unfold siteB; rw [hb1, hb2]; simp only [Bool.and_assoc]
  rw [es]; simp only [Bool.and_assoc] at hj ⊢; (refine Ev.step (f := fun k => if b1 = true then (if b2 = true then talikref03_Town.j2 k i (!decide (x.f2.length = H.length)) H S x.f0 x.f1 x.f2 else talikref03_Town.j2 k i true H S x.f0 x.f1 x.f2) else talikref03_Town.j2 k i true H S x.f0 x.f1 x.f2) (fun k => ?_) ?_)
  · (simp only [talikref03_Town.l1]; rw [if_pos (by omega), if_pos (by omega), rd64_at hlt, hx, in_f, in_f, hb1, hb2, e3]); (cases b1 <;> cases b2 <;> simp)
  · cases b1 with
    | false => simpa using hj true
    | true =>
     cases b2 with
     | false => simpa using hj true
     | true => simpa using hj (!decide (x.f2.length = H.length))
theorem town_l0 (H : List S60) (S : List S64) (hH : H.length ≤ 9223372036854775807) (hS : S.length ≤ 9223372036854775807) (hG : ∀ s ∈ S, s.f2.length ≤ 9223372036854775807) : ∀ d i : Nat, i + d = H.length → Ev (fun k => talikref03_Town.l0 k i H S) ((H.drop i).all houseB && (S.all (siteB H.length) && ((decide (1 ≤ H.length) && decide (H.length ≤ 6)) && (decide (1 ≤ S.length) && decide (S.length ≤ 10))))) := by
 intro d
 induction d with
 | zero =>
  intro i hi; (refine Ev.step (f := fun k => talikref03_Town.l1 k 0 H S) (fun k => ?_) ?_)
  · simp only [talikref03_Town.l0]; rw [if_neg (by omega)]
  · rw [List.drop_eq_nil_of_le (by omega)]; simpa using town_l1 H S hS hG S.length 0 (by omega)
 | succ d ih =>
  intro i hi; (have hlt : i < H.length := by omega); have hd : H.drop i = H[i] :: H.drop (i + 1) := List.drop_eq_getElem_cons hlt; obtain ⟨x, hx⟩ : ∃ x, H[i] = x := ⟨_, rfl⟩; rw [hx] at hd; rw [hd, List.all_cons, Bool.and_assoc]; (refine Ev.step (f := fun k => if houseB x = true then talikref03_Town.l0 k ((i + 1 : Nat) : Int) H S else some false) (fun k => ?_) (all_bool _ _ _ (ih (i + 1) (by omega)))); (simp only [talikref03_Town.l0]; rw [if_pos (by omega), if_pos (by omega), rd60_at hlt, hx, Cold_f, in_f, w1 (by omega)]); unfold houseB; simp only [Option.bind_some, Bool.and_assoc]; (cases spanB x.f0 <;> simp)
theorem Town_ev (H : List S60) (S : List S64) (hH : H.length ≤ 9223372036854775807) (hS : S.length ≤ 9223372036854775807) (hG : ∀ s ∈ S, s.f2.length ≤ 9223372036854775807) : Ev (fun k => talikref03_Town.f k H S) (validB H S) := by
 have h := town_l0 H S hH hS hG H.length 0 (by omega)
 have e : validB H S = (H.all houseB && (S.all (siteB H.length) && ((decide (1 ≤ H.length) && decide (H.length ≤ 6)) && (decide (1 ≤ S.length) && decide (S.length ≤ 10))))) := by
  unfold validB; rw [Bool.eq_iff_iff]; simp only [Bool.and_eq_true]; constructor
  · rintro ⟨⟨⟨h1, h2⟩, h3⟩, h4⟩; exact ⟨h3, h4, h1, h2⟩
  · rintro ⟨h3, h4, h1, h2⟩; exact ⟨⟨⟨h1, h2⟩, h3⟩, h4⟩
 rw [e]; simpa [talikref03_Town.f] using h
theorem coolers_l0 (H : List S60) (S : List S64) (l : List Int) (hS : S.length ≤ 9223372036854775807) (hl : l.length ≤ 9223372036854775807) : ∀ (d i : Nat), i + d = l.length → ∀ p : Int, (i = 0 → p = -1) → (i ≠ 0 → rd l ((i : Int) - 1) = p ∧ 0 ≤ p) → Ev (fun k => talikref03_Coolers.l0 k l i H S) (incr S.length p (l.drop i)) := by
 intro d
 induction d with
 | zero =>
  intro i hi p _ _; (refine Ev.step (f := fun _ => some true) (fun k => ?_) ?_)
  · simp only [talikref03_Coolers.l0]; rw [if_neg (by omega)]
  · rw [List.drop_eq_nil_of_le (by omega)]; exact Ev.now _
 | succ d ih =>
  intro i hi p hp0 hp1; (have hlt : i < l.length := by omega); obtain ⟨x, hx, hd⟩ := drop_at hlt; rw [hd]; (have hw : wrap64 ((S.length : Int) - 1) = (S.length : Int) - 1 := wrap64_of _ (by omega) (by omega)); (have hwi : wrap64 ((i : Int) - 1) = (i : Int) - 1 := wrap64_of _ (by omega) (by omega)); by_cases hin : 0 ≤ x ∧ x < (S.length : Int)
  · (have e1 : (decide (0 ≤ x) && decide (x ≤ (S.length : Int) - 1)) = true := by simp; omega); (have e2 : (decide (0 ≤ x) && decide (x < (S.length : Int))) = true := by simp; omega); (have hnx := ih (i + 1) (by omega) x (by omega) (fun _ => ⟨by rw [show ((i + 1 : Nat) : Int) - 1 = (i : Int) by omega]; exact hx, hin.1⟩)); by_cases hpx : p < x
    · refine Ev.step (f := fun k => talikref03_Coolers.l0 k l ((i + 1 : Nat) : Int) H S) (fun k => ?_) ?_
      · (simp only [talikref03_Coolers.l0]; rw [if_pos (by omega), if_pos (by omega), hx, hw, in_f, e1, w1 (by omega)]); simp only [Option.bind_some, if_true]; by_cases hi0 : i = 0
        · rw [if_neg (by omega)]
        · rw [if_pos (by omega), hwi, if_pos (by omega), if_pos (by omega), (hp1 hi0).1, if_neg (by omega)]
      · (have e : incr S.length p (x :: l.drop (i + 1)) = incr S.length x (l.drop (i + 1)) := by simp only [incr, e2, hpx, decide_true, Bool.true_and]); rw [e]; exact hnx
    · (have hi0 : i ≠ 0 := fun e => hpx (by rw [hp0 e]; omega)); (refine Ev.step (f := fun _ => some false) (fun k => ?_) ?_)
      · (simp only [talikref03_Coolers.l0]; rw [if_pos (by omega), if_pos (by omega), hx, hw, in_f, e1]); simp only [Option.bind_some, if_true]; (rw [if_pos (by omega), hwi, if_pos (by omega), if_pos (by omega), (hp1 hi0).1, if_pos (by omega)])
      · simp only [incr, hpx, decide_false, Bool.false_and]; exact Ev.now _
  · (have e1 : (decide (0 ≤ x) && decide (x ≤ (S.length : Int) - 1)) = false := by simp; omega); (have e2 : (decide (0 ≤ x) && decide (x < (S.length : Int))) = false := by simp; omega); (refine Ev.step (f := fun _ => some false) (fun k => ?_) ?_)
    · (simp only [talikref03_Coolers.l0]; rw [if_pos (by omega), if_pos (by omega), hx, hw, in_f, e1]); simp
    · simp only [incr, e2, Bool.and_false, Bool.false_and]; exact Ev.now _
theorem Coolers_ev (H : List S60) (S : List S64) (l : List Int) (hS : S.length ≤ 9223372036854775807) (hl : l.length ≤ 9223372036854775807) : Ev (fun k => talikref03_Coolers.f k H S l) (incr S.length (-1) l) := by
 (have := coolers_l0 H S l hS hl l.length 0 (by omega) (-1) (fun _ => rfl) (fun h => absurd rfl h)); simpa [talikref03_Coolers.f] using this
def askedB (H : List S60) (S : List S64) (l : List Int) : Bool := validB H S && incr S.length (-1) l
theorem asked_ev (H : List S60) (S : List S64) (l : List Int) (hH : H.length ≤ 9223372036854775807) (hS : S.length ≤ 9223372036854775807) (hG : ∀ s ∈ S, s.f2.length ≤ 9223372036854775807) (hl : l.length ≤ 9223372036854775807) : Ev (fun k => taliklaw03_asked.f k H S l) (askedB H S l) := by
 unfold taliklaw03_asked.f askedB; refine Ev.bind (Town_ev H S hH hS hG) ?_; refine all_bool _ _ _ ?_; (exact Ev.congr (fun k => by cases talikref03_Coolers.f k H S l <;> rfl) (Coolers_ev H S l hS hl))
end Go.Proofs.Ytmkdllaagaimlaa.C
end
section
namespace Go.Proofs.Ytmkdllaagaimlaa.C
open Go.RowKit Go.Proofs.YtmkdllaagaimlaaW.PrintWords Go.Proofs.YtmkdllaagaimlaaW.PrintLast Go.Proofs.YtmkdllaagaimlaaW.PrintMore
set_option linter.unusedVariables false
set_option linter.unusedSimpArgs false
def needsW (H : List S60) : List Int := H.map fun x => x.f0.f1
def givesW (S : List S64) : List (List Int) := S.map fun s => s.f2.map fun x => x.f0
theorem worst_l2 (H : List S60) (S : List S64) (i : Nat) (hi : i < S.length) (hr : S[i].f2.length = H.length) (hH : H.length ≤ 1000) (N : List Int) (Gs : List (List Int)) (hGs : Gs.length ≤ 1000) (r : List Int × List (List Int)) (hk : Ev (fun k => talikref03_Worst.l1 k (wrap64 ((i : Int) + 1)) H S N (Gs ++ [S[i].f2.map fun x => x.f0])) r) :
    ∀ d j : Nat, j + d = H.length → Ev (fun k => talikref03_Worst.l2 k i ((S[i].f2.take j).map fun x => x.f0) j H S N Gs) r := by
 intro d
 induction d with
 | zero =>
  intro j hj; (rw [List.take_of_length_le (by omega)]); (refine Ev.step (f := fun k => talikref03_Worst.l1 k (wrap64 ((i : Int) + 1)) H S N (Gs ++ [S[i].f2.map fun x => x.f0])) (fun k => ?_) hk); (simp only [talikref03_Worst.l2]; rw [if_neg (by omega), if_pos (by omega)])
 | succ d ih =>
  intro j hj; (have hlt : j < S[i].f2.length := by omega); (refine Ev.step (f := fun k => talikref03_Worst.l2 k i ((S[i].f2.take (j + 1)).map fun x => x.f0) ((j + 1 : Nat) : Int) H S N Gs) (fun k => ?_) (ih (j + 1) (by omega))); simp only [talikref03_Worst.l2]; (rw [if_pos (by omega), if_pos (by omega), if_pos (by omega), if_pos (by omega), rd64_at hi, if_pos (by omega), rd58_at hlt, w1 (by omega), if_pos (by simp; omega), List.take_succ_eq_append_getElem hlt, List.map_append]); rfl
theorem worst_l1 (H : List S60) (S : List S64) (hH : H.length ≤ 1000) (hS : S.length ≤ 1000) (hr : ∀ s ∈ S, s.f2.length = H.length) (N : List Int) : ∀ d i : Nat, i + d = S.length → Ev (fun k => talikref03_Worst.l1 k i H S N (givesW (S.take i))) (N, givesW S) := by
 intro d
 induction d with
 | zero =>
  intro i hi; (rw [List.take_of_length_le (by omega)]); (refine Ev.step (f := fun _ => some (N, givesW S)) (fun k => ?_) (Ev.now _)); (simp only [talikref03_Worst.l1]; rw [if_neg (by omega)])
 | succ d ih =>
  intro i hi; (have hlt : i < S.length := by omega); (have hl : (givesW (S.take i)).length ≤ 1000 := by simp [givesW]; omega); (refine Ev.step (f := fun k => talikref03_Worst.l2 k i [] 0 H S N (givesW (S.take i))) (fun k => ?_) ?_)
  · simp only [talikref03_Worst.l1]; rw [if_pos (by omega)]
  · have := worst_l2 H S i hlt (hr _ (List.getElem_mem hlt)) hH N (givesW (S.take i)) hl (N, givesW S) (by
     (have h := ih (i + 1) (by omega)); rw [List.take_succ_eq_append_getElem hlt] at h; (rw [w1 (by omega)]); (rw [show givesW (S.take i ++ [S[i]]) = givesW (S.take i) ++ [S[i].f2.map fun x => x.f0] by unfold givesW; rw [List.map_append]; rfl] at h)
     exact h) H.length 0 (by omega)
    simpa using this
theorem worst_l0 (H : List S60) (S : List S64) (hH : H.length ≤ 1000) (hS : S.length ≤ 1000) (hr : ∀ s ∈ S, s.f2.length = H.length) : ∀ d i : Nat, i + d = H.length → Ev (fun k => talikref03_Worst.l0 k i H S (needsW (H.take i))) (needsW H, givesW S) := by
 intro d
 induction d with
 | zero =>
  intro i hi; (rw [List.take_of_length_le (by omega)]); (refine Ev.step (f := fun k => talikref03_Worst.l1 k 0 H S (needsW H) []) (fun k => ?_) ?_)
  · simp only [talikref03_Worst.l0]; rw [if_neg (by omega)]
  · (have := worst_l1 H S hH hS hr (needsW H) S.length 0 (by omega)); simpa [givesW] using this
 | succ d ih =>
  intro i hi; (have hlt : i < H.length := by omega); (refine Ev.step (f := fun k => talikref03_Worst.l0 k ((i + 1 : Nat) : Int) H S (needsW (H.take (i + 1)))) (fun k => ?_) (ih (i + 1) (by omega))); (simp only [talikref03_Worst.l0]; rw [if_pos (by omega), if_pos (by omega), if_pos (by simp [needsW]; omega), rd60_at hlt, w1 (by omega), List.take_succ_eq_append_getElem hlt, show needsW (H.take i ++ [H[i]]) = needsW (H.take i) ++ [H[i].f0.f1] by unfold needsW; rw [List.map_append]; rfl])
theorem Worst_ev (H : List S60) (S : List S64) (hH : H.length ≤ 1000) (hS : S.length ≤ 1000) (hr : ∀ s ∈ S, s.f2.length = H.length) : Ev (fun k => talikref03_Worst.f k H S) (needsW H, givesW S) := by
 (have := worst_l0 H S hH hS hr H.length 0 (by omega)); simpa [talikref03_Worst.f, needsW] using this
def overW (N : List Int) (G : List (List Int)) (l : List Int) (h : Nat) : Int := -(rd N (h : Int)) + (l.map fun x => rd (rd_L8 G x) (h : Int)).sum
structure TruthOk (H : List S60) (S : List S64) (N : List Int) (G : List (List Int)) : Prop where
  n : N.length = H.length
  g : G.length = S.length
  r : ∀ i : Nat, i < S.length → (rd_L8 G (i : Int)).length = H.length
  bn : ∀ h : Nat, h < H.length → 0 ≤ rd N (h : Int) ∧ rd N (h : Int) ≤ 1000000
  bg : ∀ i h : Nat, i < S.length → h < H.length → 0 ≤ rd (rd_L8 G (i : Int)) (h : Int) ∧ rd (rd_L8 G (i : Int)) (h : Int) ≤ 1000000
theorem sum_bd {l : List Int} {f : Int → Int} {m : Int} (h : ∀ x ∈ l, 0 ≤ f x ∧ f x ≤ m) : 0 ≤ (l.map f).sum ∧ (l.map f).sum ≤ m * l.length := by
 induction l with
 | nil => simp
 | cons a r ih =>
  (have h1 := h a (by simp)); (have h2 := ih fun x hx => h x (by simp [hx])); simp only [List.map_cons, List.sum_cons, List.length_cons]; (have : m * ((r.length + 1 : Nat) : Int) = m * r.length + m := by rw [Int.natCast_add, Int.mul_add]; simp); omega
theorem valid_more {H : List S60} {S : List S64} (h : validB H S = true) : (∀ s ∈ S, s.f2.length = H.length) ∧ (∀ x ∈ H, spanB x.f0 = true ∧ 0 ≤ x.f1 ∧ x.f1 ≤ 100) ∧ (∀ s ∈ S, 0 ≤ s.f0 ∧ s.f0 ≤ 1000000 ∧ 1 ≤ s.f1 ∧ s.f1 ≤ 100 ∧ s.f2.all spanB = true) := by
 unfold validB at h; simp only [Bool.and_eq_true, List.all_eq_true] at h; obtain ⟨⟨⟨h1, h2⟩, h3⟩, h4⟩ := h; (refine ⟨fun s hs => ?_, fun x hx => ?_, fun s hs => ?_⟩)
 · have := h4 s hs; simp only [siteB, Bool.and_eq_true, decide_eq_true_eq] at this; exact this.1.2
 · have := h3 x hx; simp only [houseB, Bool.and_eq_true, decide_eq_true_eq] at this; exact ⟨this.1.1, this.1.2, this.2⟩
 · have := h4 s hs; simp only [siteB, Bool.and_eq_true, decide_eq_true_eq] at this; exact ⟨this.1.1.1.1, this.1.1.1.2, this.1.1.2.1, this.1.1.2.2, this.2⟩
theorem spanB_iff (s : S58) : spanB s = true ↔ 0 ≤ s.f0 ∧ s.f0 ≤ s.f1 ∧ s.f1 ≤ 1000000 := by
 simp only [spanB, Bool.and_eq_true, decide_eq_true_eq, and_assoc]
theorem rd_needsW {H : List S60} {h : Nat} (hh : h < H.length) : rd (needsW H) (h : Int) = (rd_T60 H (h : Int)).f0.f1 := by
 rw [rd_at (by simpa [needsW] using hh), rd60_at hh]; simp [needsW]
theorem rd_givesW {H : List S60} {S : List S64} (hv : validB H S = true) {i h : Nat} (hi : i < S.length) (hh : h < H.length) : rd (rd_L8 (givesW S) (i : Int)) (h : Int) = cold S h i := by
 have hr := (valid_more hv).1 _ (List.getElem_mem hi); (have e : rd_L8 (givesW S) (i : Int) = S[i].f2.map fun x => x.f0 := by simp [rd_L8, givesW, List.getD_eq_getElem?_getD, List.getElem?_eq_getElem hi]); rw [e]; unfold cold; (have h2 : h < S[i].f2.length := by omega); (rw [rd_at (by simpa using h2), rd64_at hi, rd58_at h2]; simp)
theorem worst_ok {H : List S60} {S : List S64} (hv : validB H S = true) : TruthOk H S (needsW H) (givesW S) := by
 obtain ⟨hr, hs, hc⟩ := valid_more hv; obtain ⟨v1, v2, v3, v4, v5, v6⟩ := valid_facts hv; (refine ⟨by simp [needsW], by simp [givesW], fun i hi => ?_, fun h hh => ?_, fun i h hi hh => ?_⟩)
 · (have e : rd_L8 (givesW S) (i : Int) = S[i].f2.map fun x => x.f0 := by simp [rd_L8, givesW, List.getD_eq_getElem?_getD, List.getElem?_eq_getElem hi]); rw [e, List.length_map]; exact hr _ (List.getElem_mem hi)
 · rw [rd_needsW hh, rd60_at hh]; have := (spanB_iff _).1 (hs _ (List.getElem_mem hh)).1; omega
 · rw [rd_givesW hv hi hh]; exact v6 h i hh hi
def levelW (H : List S60) (S : List S64) (l : List Int) (h : Nat) : Bool := decide ((rd_T60 H (h : Int)).f0.f1 ≤ (l.map fun x => cold S h x.toNat).sum)
end Go.Proofs.Ytmkdllaagaimlaa.C
end
section
namespace Go.Proofs.Ytmkdllaagaimlaa.C
open Go.RowKit Go.Proofs.YtmkdllaagaimlaaW.PrintWords Go.Proofs.YtmkdllaagaimlaaW.PrintLast Go.Proofs.YtmkdllaagaimlaaW.PrintMore
set_option linter.unusedVariables false
set_option linter.unusedSimpArgs false
theorem sum_perm {l m : List Int} (h : l.Perm m) : l.sum = m.sum := by
 induction h with
 | nil => rfl
 | cons a _ ih => simp only [List.sum_cons, ih]
 | swap a b l => simp only [List.sum_cons]; omega
 | trans _ _ i1 i2 => exact i1.trans i2
theorem sum_nonneg {l : List Int} (h : ∀ x ∈ l, 0 ≤ x) : 0 ≤ l.sum := by
 induction l with
 | nil => simp
 | cons a r ih =>
  (have h1 := h a (by simp)); (have h2 := ih fun x hx => h x (by simp [hx])); simp only [List.sum_cons]; omega
theorem take_most : ∀ (s : List Int), s.Pairwise (· ≥ ·) → (∀ x ∈ s, 0 ≤ x) → ∀ (f : Nat) (v : List Int), v.Sublist s → v.length ≤ f → v.sum ≤ (s.take f).sum
  | [], _, _, f, v, hv, _ => by
    have : v = [] := List.sublist_nil.1 hv
    subst this; simp
  | a :: s, hs, h0, f, v, hv, hl => by
    have hs' := List.pairwise_cons.1 hs
    have h0' : ∀ x ∈ s, 0 ≤ x := fun x hx => h0 x (by simp [hx])
    cases f with
    | zero =>
      have : v = [] := List.eq_nil_of_length_eq_zero (by omega)
      subst this; simp
    | succ f =>
      rw [List.take_succ_cons, List.sum_cons]
      cases hv with
      | cons _ hv =>
        cases v with
        | nil =>
          have h1 := h0 a (by simp)
          have h2 : 0 ≤ (s.take f).sum := sum_nonneg fun x hx => h0' x (List.mem_of_mem_take hx)
          simp only [List.sum_nil]; omega
        | cons b v =>
          have h1 : b ∈ s := hv.subset (by simp)
          have h2 := hs'.1 b h1
          have h3 := take_most s hs'.2 h0' f v ((List.sublist_cons_self b v).trans hv) (by simp at hl; omega)
          simp only [List.sum_cons]; omega
      | cons_cons _ hv =>
        rename_i v
        have h3 := take_most s hs'.2 h0' f v hv (by simp at hl; omega)
        simp only [List.sum_cons]; omega
theorem drop_sum (s : List Int) (f : Nat) : (s.drop f).sum = s.sum - (s.take f).sum := by
 have := congrArg List.sum (List.take_append_drop f s); rw [List.sum_append] at this; omega
theorem ext_lt : ∀ (l m : List Int), l.Pairwise (· < ·) → m.Pairwise (· < ·) → (∀ x, x ∈ l ↔ x ∈ m) → l = m
  | [], [], _, _, _ => rfl
  | [], b :: m, _, _, h => absurd ((h b).2 (by simp)) (by simp)
  | a :: l, [], _, _, h => absurd ((h a).1 (by simp)) (by simp)
  | a :: l, b :: m, hl, hm, h => by
    have hl' := List.pairwise_cons.1 hl
    have hm' := List.pairwise_cons.1 hm
    have hab : a = b := by
      have h1 := (h a).1 (by simp)
      have h2 := (h b).2 (by simp)
      rcases List.mem_cons.1 h1 with h1 | h1
      · exact h1
      · rcases List.mem_cons.1 h2 with h2 | h2
        · exact h2.symm
        · have := hm'.1 a h1; have := hl'.1 b h2; omega
    subst hab
    rw [ext_lt l m hl'.2 hm'.2]
    intro x
    constructor
    · intro hx
      have := (h x).1 (by simp [hx])
      rcases List.mem_cons.1 this with e | e
      · have := hl'.1 x hx; omega
      · exact e
    · intro hx
      have := (h x).2 (by simp [hx])
      rcases List.mem_cons.1 this with e | e
      · have := hm'.1 x hx; omega
      · exact e
theorem combos_iff : ∀ (l : List Int) (k : Nat) (c : List Int), c ∈ combos l k ↔ c.Sublist l ∧ c.length = k
  | l, 0, c => by
    cases l <;> simp only [combos, List.mem_singleton]
    all_goals
      constructor
      · rintro rfl; exact ⟨List.nil_sublist _, rfl⟩
      · rintro ⟨_, h⟩; exact List.eq_nil_of_length_eq_zero h
  | [], k + 1, c => by
    simp only [combos, List.not_mem_nil, false_iff]
    rintro ⟨h1, h2⟩
    rw [List.sublist_nil.1 h1] at h2; simp at h2
  | x :: r, k + 1, c => by
    simp only [combos, List.mem_append, List.mem_map, combos_iff r k, combos_iff r (k + 1)]
    constructor
    · rintro (⟨d, ⟨h1, h2⟩, rfl⟩ | ⟨h1, h2⟩)
      · exact ⟨h1.cons_cons x, by simp [h2]⟩
      · exact ⟨h1.cons x, h2⟩
    · rintro ⟨h1, h2⟩
      cases h1 with
      | cons _ h1 => exact Or.inr ⟨h1, h2⟩
      | cons_cons _ h1 => exact Or.inl ⟨_, ⟨h1, by simpa using h2⟩, rfl⟩
theorem memI_lt (C : Nat) : (memI C).Pairwise (· < ·) := by
 unfold memI memN; rw [List.pairwise_map]; (refine List.Pairwise.imp (fun h => ?_) ((List.pairwise_lt_range (n := 10)).filter _)); exact Int.ofNat_lt.2 h
theorem mem_memI (C : Nat) (x : Int) : x ∈ memI C ↔ 0 ≤ x ∧ x < 10 ∧ C.testBit x.toNat = true := by
 unfold memI memN; simp only [List.mem_map, List.mem_filter, List.mem_range]; constructor
 · rintro ⟨n, ⟨h1, h2⟩, rfl⟩; (exact ⟨Int.natCast_nonneg n, Int.ofNat_lt.2 h1, by simpa using h2⟩)
 · rintro ⟨h1, h2, h3⟩; (exact ⟨x.toNat, ⟨by omega, h3⟩, Int.toNat_of_nonneg h1⟩)
theorem incr_sorted {m : Int} : ∀ {l : List Int} {p : Int}, incr m p l = true → l.Pairwise (· < ·)
  | [], _, _ => List.Pairwise.nil
  | x :: r, p, h => by
    simp only [incr, Bool.and_eq_true, decide_eq_true_eq] at h
    exact List.pairwise_cons.2 ⟨fun y hy => (incr_lt h.2 y hy).1, incr_sorted h.2⟩
theorem incr_of {m : Int} : ∀ {l : List Int} {p : Int}, l.Pairwise (· < ·) → (∀ x ∈ l, p < x ∧ 0 ≤ x ∧ x < m) → incr m p l = true
  | [], _, _, _ => rfl
  | x :: r, p, h, hb => by
    have h' := List.pairwise_cons.1 h
    have hx := hb x (by simp)
    simp only [incr, Bool.and_eq_true, decide_eq_true_eq]
    exact ⟨⟨hx.1, hx.2⟩, incr_of h'.2 fun y hy => ⟨h'.1 y hy, (hb y (by simp [hy])).2⟩⟩
theorem memI_mask {l : List Int} (h : l.Pairwise (· < ·)) (hb : ∀ x ∈ l, 0 ≤ x ∧ x < 10) : memI (maskN l) = l := by
 (refine ext_lt _ _ (memI_lt _) h fun x => ?_); rw [mem_memI]; constructor
 · rintro ⟨h1, h2, h3⟩; (have := (maskN_bit x.toNat l fun y hy => (hb y hy).1).1 h3); rwa [Int.toNat_of_nonneg h1] at this
 · intro hx; have hb' := hb x hx; (refine ⟨hb'.1, hb'.2, (maskN_bit x.toNat l fun y hy => (hb y hy).1).2 ?_⟩); rwa [Int.toNat_of_nonneg hb'.1]
theorem memI_clrM {l c : List Int} (h : l.Pairwise (· < ·)) (hb : ∀ x ∈ l, 0 ≤ x ∧ x < 10) (hc : ∀ x ∈ c, 0 ≤ x) : memI (clrM (maskN l) (maskN c)) = wo l c := by
 (have hl : maskN l < 2 ^ 10 := maskN_lt fun x hx => hb x hx); (refine ext_lt _ _ (memI_lt _) (h.sublist (List.filter_sublist ..)) fun x => ?_); (rw [mem_memI, clrM_bit _ _ (Nat.lt_of_lt_of_le hl (by decide))]); simp only [wo, List.mem_filter, Bool.and_eq_true, Bool.not_eq_true', decide_eq_false_iff_not]; constructor
 · rintro ⟨h1, h2, h3, h4⟩; (have h3' := (maskN_bit x.toNat l fun y hy => (hb y hy).1).1 h3); rw [Int.toNat_of_nonneg h1] at h3'; (refine ⟨h3', fun hx => ?_⟩); (have := (maskN_bit x.toNat c hc).2 (by rwa [Int.toNat_of_nonneg h1])); rw [this] at h4; cases h4
 · rintro ⟨h1, h2⟩; have hb' := hb x h1; (refine ⟨hb'.1, hb'.2, (maskN_bit x.toNat l fun y hy => (hb y hy).1).2 (by rwa [Int.toNat_of_nonneg hb'.1]), ?_⟩)
   cases ht : (maskN c).testBit x.toNat with
   | false => rfl
   | true =>
    have := (maskN_bit x.toNat c hc).1 ht; rw [Int.toNat_of_nonneg hb'.1] at this; exact absurd this h2
theorem sum_wo (g : Int → Int) : ∀ (l c : List Int), l.Pairwise (· < ·) → c.Sublist l → ((wo l c).map g).sum = (l.map g).sum - (c.map g).sum
  | [], c, _, hc => by
    have : c = [] := List.sublist_nil.1 hc
    subst this; simp [wo]
  | a :: l, c, hl, hc => by
    have hl' := List.pairwise_cons.1 hl
    cases hc with
    | cons _ hc =>
      have ha : a ∉ c := fun h => by have := hl'.1 a (hc.subset h); omega
      have ih := sum_wo g l c hl'.2 hc
      unfold wo at ih ⊢
      rw [List.filter_cons, if_pos (by simpa using ha)]
      simp only [List.map_cons, List.sum_cons]; omega
    | cons_cons _ hc =>
      rename_i c
      have ih := sum_wo g l c hl'.2 hc
      have e : wo (a :: l) (a :: c) = wo l c := by
        unfold wo
        rw [List.filter_cons, if_neg (by simp)]
        apply List.filter_congr
        intro x hx
        have : x ≠ a := by have := hl'.1 x hx; omega
        simp [this]
      rw [e]
      simp only [List.map_cons, List.sum_cons]; omega
theorem drop_le (g : Int → Int) (hg : ∀ x, 0 ≤ g x) (l c : List Int) (hc : c.Sublist l) (f : Nat) (hf : c.length ≤ f) :
    ((isorted (l.map g)).drop f).sum ≤ (l.map g).sum - (c.map g).sum := by
 have hp := isorted_perm (l.map g); obtain ⟨v, hv1, hv2⟩ := List.exists_perm_sublist (hc.map g) hp.symm
 have h1 := take_most _ (isorted_desc (l.map g)) (fun x hx => by
  have := hp.subset hx; obtain ⟨y, _, rfl⟩ := List.mem_map.1 this
  exact hg y) f v hv2 (by rw [hv1.length_eq, List.length_map]; exact hf)
 rw [drop_sum, sum_perm hp, ← sum_perm hv1]; omega
theorem drop_att (g : Int → Int) (l : List Int) (f : Nat) :
    ∃ c : List Int, c.Sublist l ∧ c.length ≤ f ∧ c.length = min f l.length ∧ ((isorted (l.map g)).drop f).sum = (l.map g).sum - (c.map g).sum := by
 have hp := isorted_perm (l.map g); obtain ⟨v, hv1, hv2⟩ := List.exists_perm_sublist (List.take_sublist f (isorted (l.map g))) hp; obtain ⟨c, hc1, rfl⟩ := List.sublist_map_iff.1 hv2
 have hlen : c.length = min f l.length := by
  have := hv1.length_eq; rw [List.length_map, List.length_take, hp.length_eq, List.length_map] at this; exact this
 (refine ⟨c, hc1, by omega, hlen, ?_⟩); rw [drop_sum, sum_perm hp, sum_perm hv1]
theorem levelB_zero (H : List S60) (S : List S64) (h C : Nat) : levelB H S h 0 C = levelW H S (memI C) h := by
 unfold levelB levelW colds; rw [List.drop_zero, sum_perm (isorted_perm _)]
end Go.Proofs.Ytmkdllaagaimlaa.C
end
section
namespace Go.Proofs.Ytmkdllaagaimlaa.C
open Go.RowKit Go.Proofs.YtmkdllaagaimlaaW.PrintWords Go.Proofs.YtmkdllaagaimlaaW.PrintLast Go.Proofs.YtmkdllaagaimlaaW.PrintMore
set_option linter.unusedVariables false
set_option linter.unusedSimpArgs false
theorem known_ev' : Ev (fun k => (taliklaw03_known.f k).bind fun t => some t) true := ⟨0, fun _ _ => rfl⟩
end Go.Proofs.Ytmkdllaagaimlaa.C
end
section
namespace Go.Proofs.Ytmkdllaagaimlaa.C
open Go.RowKit Go.Proofs.YtmkdllaagaimlaaW.PrintWords Go.Proofs.YtmkdllaagaimlaaW.PrintLast Go.Proofs.YtmkdllaagaimlaaW.PrintMore
set_option linter.unusedVariables false
set_option linter.unusedSimpArgs false
theorem Fails_ev (n : Int) : Ev (fun (_ : Nat) => talikref03_Fails.f n) (decide (0 ≤ n) && decide (n ≤ 3)) := ⟨0, fun _ _ => by
  show talikref03_Fails.f n = _
  unfold talikref03_Fails.f; rw [in_f]; rfl⟩
theorem cmpI_neg (a b : Int) : cmpI a b < 0 ↔ a < b := by unfold cmpI; split <;> (try split) <;> omega
theorem cmpI_zero (a b : Int) : cmpI a b = 0 ↔ a = b := by unfold cmpI; split <;> (try split) <;> omega
theorem before_l0 (a b : List Int) (ha : a.length ≤ 1000) (hab : a.length = b.length) : ∀ d i : Nat, i + d = a.length → Ev (fun k => talikref03_Before.l0 k a b i) (decide (cmpL (a.drop i) (b.drop i) < 0)) := by
 intro d
 induction d with
 | zero =>
  intro i hi; (rw [List.drop_eq_nil_of_le (show a.length ≤ i by omega), List.drop_eq_nil_of_le (show b.length ≤ i by omega)]); (refine Ev.step (f := fun k => talikref03_Before.j1 k a b i false) (fun k => ?_) (Ev.step (f := fun _ => some false) (fun k => ?_) (by simp [cmpL]; exact Ev.now _)))
  · simp only [talikref03_Before.l0]; rw [if_neg (by omega)]
  · simp only [talikref03_Before.j1]; rw [if_neg (by simp)]
 | succ d ih =>
  intro i hi; (have hlt : i < a.length := by omega); obtain ⟨x, hx, hd⟩ := drop_at hlt; (obtain ⟨y, hy, he⟩ := drop_at (l := b) (i := i) (by omega)); rw [hd, he]; (refine Ev.step (f := fun k => talikref03_Before.j1 k a b i true) (fun k => ?_) ?_)
  · simp only [talikref03_Before.l0]; rw [if_pos (by omega), decide_eq_true (by omega)]
  · by_cases hxy : x = y
    · refine Ev.step (f := fun k => talikref03_Before.l0 k a b ((i + 1 : Nat) : Int)) (fun k => ?_) ?_
      · simp only [talikref03_Before.j1]; rw [if_pos trivial, if_pos (by omega), if_pos (by omega), if_pos (by omega), hx, hy, if_pos hxy, w1 (by omega)]
      · have e : cmpL (x :: a.drop (i + 1)) (y :: b.drop (i + 1)) = cmpL (a.drop (i + 1)) (b.drop (i + 1)) := by
         simp only [cmpL]; rw [if_pos ((cmpI_zero x y).2 hxy)]
        rw [e]; exact ih (i + 1) (by omega)
    · refine Ev.step (f := fun _ => some (decide (x < y))) (fun k => ?_) ?_
      · simp only [talikref03_Before.j1]; rw [if_pos trivial, if_pos (by omega), if_pos (by omega), if_pos (by omega), hx, hy, if_neg hxy]
      · have e : decide (cmpL (x :: a.drop (i + 1)) (y :: b.drop (i + 1)) < 0) = decide (x < y) := by
         rw [decide_eq_decide]; simp only [cmpL]; rw [if_neg (fun h => hxy ((cmpI_zero x y).1 h))]; exact cmpI_neg x y
        rw [e]; exact Ev.now _
theorem Before_ev (a b : List Int) (ha : a.length ≤ 1000) (hab : a.length = b.length) : Ev (fun k => talikref03_Before.f k a b) (decide (cmpL a b < 0)) := by
 (have := before_l0 a b ha hab a.length 0 (by omega)); simpa [talikref03_Before.f] using this
theorem cmpL_trans : ∀ (l m r : List Int), cmpL l m < 0 → cmpL m r < 0 → cmpL l r < 0
  | [], [], _, h, _ => by simp [cmpL] at h
  | [], _ :: _, [], _, h => by simp [cmpL] at h
  | [], _ :: _, _ :: _, _, _ => by simp [cmpL]
  | _ :: _, [], _, h, _ => by simp [cmpL] at h
  | _ :: _, _ :: _, [], _, h => by simp [cmpL] at h
  | a :: l, b :: m, c :: r, h1, h2 => by
    simp only [cmpL] at h1 h2 ⊢
    by_cases hab : a = b
    · subst hab
      rw [if_pos ((cmpI_zero a a).2 rfl)] at h1
      by_cases hac : a = c
      · subst hac
        rw [if_pos ((cmpI_zero a a).2 rfl)] at h2 ⊢
        exact cmpL_trans l m r h1 h2
      · rw [if_neg (fun h => hac ((cmpI_zero a c).1 h))] at h2 ⊢
        exact h2
    · rw [if_neg (fun h => hab ((cmpI_zero a b).1 h)), cmpI_neg] at h1
      by_cases hbc : b = c
      · subst hbc
        rw [if_neg (fun h => hab ((cmpI_zero a b).1 h)), cmpI_neg]; exact h1
      · rw [if_neg (fun h => hbc ((cmpI_zero b c).1 h)), cmpI_neg] at h2
        rw [if_neg (fun h => by have := (cmpI_zero a c).1 h; omega), cmpI_neg]; omega
theorem cmpL_irr : ∀ l : List Int, ¬ cmpL l l < 0
  | [] => by simp [cmpL]
  | a :: r => by simp only [cmpL]; rw [if_pos ((cmpI_zero a a).2 rfl)]; exact cmpL_irr r
theorem cold_nonneg {H : List S60} {S : List S64} (hv : validB H S = true) {h : Nat} (hh : h < H.length) {x : Int} (hx : 0 ≤ x ∧ x < S.length) : 0 ≤ cold S h x.toNat := by
 obtain ⟨v1, v2, v3, v4, v5, v6⟩ := valid_facts hv; (exact (v6 h x.toNat hh (by omega)).1)
theorem brk_no {H : List S60} {S : List S64} {f C : Nat} : brk H S f C = none ↔ ∀ h, h < H.length → levelB H S h f C = true := by
 unfold brk; rw [List.find?_eq_none]; simp only [List.mem_range, Bool.not_eq_true', Bool.not_eq_false]
end Go.Proofs.Ytmkdllaagaimlaa.C
end
section
namespace Go.Proofs.Ytmkdllaagaimlaa.C
open Go.RowKit Go.Proofs.YtmkdllaagaimlaaW.PrintWords Go.Proofs.YtmkdllaagaimlaaW.PrintLast Go.Proofs.YtmkdllaagaimlaaW.PrintMore
set_option linter.unusedVariables false
set_option linter.unusedSimpArgs false
theorem cin_f (x a b : Int) : cool_in.f x a b = some (decide (a ≤ x) && decide (x ≤ b)) := by
 unfold cool_in.f; by_cases h : x ≥ a
 · rw [if_pos h]; simp [show a ≤ x from h]
 · rw [if_neg h]; simp [show ¬ a ≤ x from h]
def inB (x : Int) (s : S58) : Bool := decide (s.f0 ≤ x) && decide (x ≤ s.f1)
structure TruthIn (H : List S60) (S : List S64) (N : List Int) (G : List (List Int)) : Prop where
  n : N.length = H.length
  g : G.length = S.length
  r : ∀ i : Nat, i < S.length → (rd_L8 G (i : Int)).length = H.length
  bn : ∀ h : Nat, h < H.length → inB (rd N (h : Int)) (rd_T60 H (h : Int)).f0 = true
  bg : ∀ i h : Nat, i < S.length → h < H.length → inB (rd (rd_L8 G (i : Int)) (h : Int)) (rd_T58 (rd_T64 S (i : Int)).f2 (h : Int)) = true
theorem inB_iff (x : Int) (s : S58) : inB x s = true ↔ s.f0 ≤ x ∧ x ≤ s.f1 := by simp [inB]
theorem TruthIn.ok {H : List S60} {S : List S64} {N : List Int} {G : List (List Int)} (hv : validB H S = true) (h : TruthIn H S N G) : TruthOk H S N G := by
 obtain ⟨hr, hs, hc⟩ := valid_more hv; (refine ⟨h.n, h.g, h.r, fun k hk => ?_, fun i k hi hk => ?_⟩)
 · have h1 := (inB_iff _ _).1 (h.bn k hk); rw [rd60_at hk] at h1; have h2 := (spanB_iff _).1 (hs _ (List.getElem_mem hk)).1; omega
 · have h1 := (inB_iff _ _).1 (h.bg i k hi hk); have hm := List.getElem_mem hi; (have hk2 : k < S[i].f2.length := by rw [hr _ hm]; exact hk); rw [rd64_at hi, rd58_at hk2] at h1; have h2 := (spanB_iff _).1 (List.all_eq_true.1 (hc _ hm).2.2.2.2 _ (List.getElem_mem hk2)); omega
theorem worst_in {H : List S60} {S : List S64} (hv : validB H S = true) : TruthIn H S (needsW H) (givesW S) := by
 have hw := worst_ok hv; obtain ⟨hr, hs, hc⟩ := valid_more hv; (refine ⟨hw.n, hw.g, hw.r, fun k hk => ?_, fun i k hi hk => ?_⟩)
 · rw [inB_iff, rd_needsW hk, rd60_at hk]; have h2 := (spanB_iff _).1 (hs _ (List.getElem_mem hk)).1; omega
 · have hm := List.getElem_mem hi; (have hk2 : k < S[i].f2.length := by rw [hr _ hm]; exact hk); rw [inB_iff, rd_givesW hv hi hk]; unfold cold; rw [rd64_at hi, rd58_at hk2]; have h2 := (spanB_iff _).1 (List.all_eq_true.1 (hc _ hm).2.2.2.2 _ (List.getElem_mem hk2)); omega
def accL (C : Nat) (G : List (List Int)) (h i : Nat) : List Int := ((List.range i).filter fun j => C.testBit j).map fun j : Nat => rd (rd_L8 G (j : Int)) (h : Int)
theorem accL_succ (C : Nat) (G : List (List Int)) (h i : Nat) : accL C G h (i + 1) = if C.testBit i = true then accL C G h i ++ [rd (rd_L8 G (i : Int)) (h : Int)] else accL C G h i := by
 unfold accL; rw [List.range_succ, List.filter_append]; (cases hc : C.testBit i <;> simp [hc])
theorem accL_len (C : Nat) (G : List (List Int)) (h i : Nat) : (accL C G h i).length ≤ i := by
 unfold accL; rw [List.length_map]; (exact Nat.le_trans (List.length_filter_le ..) (by simp))
theorem accL_all {S : List S64} (hS : S.length ≤ 10) {l : List Int} (hi : incr S.length (-1) l = true) (G : List (List Int)) (h : Nat) : accL (maskN l) G h S.length = l.map fun x => rd (rd_L8 G x) (h : Int) := by
 (have hb : ∀ x ∈ l, 0 ≤ x ∧ x < 10 := fun x hx => by have := (incr_lt hi x hx).2; omega); have hm := memI_mask (incr_sorted hi) hb; have hlt := incr_mask (m := S.length) hi
 have e : (List.range S.length).filter (fun j => (maskN l).testBit j) = memN (maskN l) := by
  unfold memN; (obtain ⟨d, hd⟩ : ∃ d, 10 = S.length + d := ⟨10 - S.length, by omega⟩); rw [hd, List.range_add, List.filter_append]
  have : ((List.range d).map fun x => S.length + x).filter (fun j => (maskN l).testBit j) = [] := by
   rw [List.filter_eq_nil_iff]; intro x hx; obtain ⟨y, _, rfl⟩ := List.mem_map.1 hx; (rw [Nat.testBit_lt_two_pow (Nat.lt_of_lt_of_le hlt (Nat.pow_le_pow_right (by decide) (by omega)))]); simp
  rw [this, List.append_nil]
 unfold accL; rw [e]; (conv => rhs; rw [← hm]); unfold memI; rw [List.map_map]; rfl
theorem play_l3 {H : List S60} {S : List S64} (hH : H.length ≤ 1000) (hS : S.length ≤ 10) (N : List Int) (G : List (List Int)) (hT : TruthOk H S N G) (l : List Int) (hi : incr S.length (-1) l = true) (h : Nat) (hh : h < H.length) (out : List Int) (hout : out.length ≤ 1000) (r : List Int × Int)
    (hk : Ev (fun k => cool_Play.l2 k (maskN l : Int) (out ++ [overW N G l h]) N (N.length : Int) (wrap64 ((h : Int) + 1)) H S N G) r) :
    ∀ d i : Nat, i + d = S.length → Ev (fun k => cool_Play.l3 k (maskN l : Int) out h (rd N (h : Int)) (accL (maskN l) G h i) N (N.length : Int) h G (G.length : Int) i H S N G) r := by
 have hlt := incr_mask (m := S.length) hi; (have hlt62 : maskN l < 2 ^ 62 := Nat.lt_of_lt_of_le hlt (Nat.pow_le_pow_right (by decide) (by omega))); have hG := hT.g
 have hll : l.length ≤ 10 := by
  have := memI_small (maskN l); (rw [memI_mask (incr_sorted hi) (fun x hx => by have := (incr_lt hi x hx).2; omega)] at this); exact this
 intro d
 induction d with
 | zero =>
  intro i hi0; (obtain rfl : i = S.length := by omega); rw [accL_all hS hi]
  have hbd : ∀ x ∈ l.map (fun x => rd (rd_L8 G x) (h : Int)), 0 ≤ x ∧ x ≤ 1000000 := by
   intro x hx; obtain ⟨y, hy, rfl⟩ := List.mem_map.1 hx; have hy' := (incr_lt hi y hy).2; obtain ⟨n, rfl⟩ := Int.eq_ofNat_of_zero_le hy'.1; (exact hT.bg n h (by omega) hh)
  (have hsum := sum_bd (l := l) (f := fun x => rd (rd_L8 G x) (h : Int)) (m := 1000000) (fun x hx => hbd _ (List.mem_map_of_mem hx))); have hn := hT.bn h hh; (refine Ev.step (f := fun k => (cool_sum.f k (l.map fun x => rd (rd_L8 G x) (h : Int))).bind fun t353 => (if out.length < 17592186044416 then (cool_Play.l2 k (maskN l : Int) (out ++ [wrap64 (t353 - rd N (h : Int))]) N (N.length : Int) (wrap64 ((h : Int) + 1)) H S N G) else none)) (fun k => ?_) ?_)
  · simp only [cool_Play.l3]; rw [if_neg (by omega)]
  · (refine Ev.bind (a := (l.map fun x => rd (rd_L8 G x) (h : Int)).sum) ⟨l.length + 1, fun k hk => sum_f _ (by rw [List.length_map]; omega) hbd k (by rw [List.length_map]; omega)⟩ ?_); (refine Ev.congr (fun k => ?_) hk); (rw [if_pos (by omega), wrap64_of _ (by omega) (by omega)]); (have : (l.map fun x => rd (rd_L8 G x) (h : Int)).sum - rd N (h : Int) = overW N G l h := by unfold overW; omega); rw [this]
 | succ d ih =>
  intro i hi0; (have hr := hT.r i (by omega)); have hal := accL_len (maskN l) G h i; (refine Ev.step (f := fun k => cool_Play.l3 k (maskN l : Int) out h (rd N (h : Int)) (accL (maskN l) G h (i + 1)) N (N.length : Int) h G (G.length : Int) ((i + 1 : Nat) : Int) H S N G) (fun k => ?_) (ih (i + 1) (by omega))); simp only [cool_Play.l3]; (rw [if_pos (by omega), if_pos (by omega), if_pos (by omega), has_f (maskN l) i hlt62 (by omega), Option.bind_some, accL_succ])
  cases hc : (maskN l).testBit i with
  | true => rw [if_pos rfl, if_pos (by omega), if_pos (by omega), if_pos (by omega), w1 (by omega), if_pos rfl]
  | false => rw [if_neg (by simp), if_neg (by simp), w1 (by omega)]
theorem play_l2 {H : List S60} {S : List S64} (hH : H.length ≤ 1000) (hS : S.length ≤ 10) (N : List Int) (G : List (List Int)) (hT : TruthOk H S N G) (hI : TruthIn H S N G) (l : List Int) (hi : incr S.length (-1) l = true) :
    ∀ d h : Nat, h + d = H.length → Ev (fun k => cool_Play.l2 k (maskN l : Int) ((List.range h).map (overW N G l)) N (N.length : Int) h H S N G) ((List.range H.length).map (overW N G l), 0) := by
 intro d
 induction d with
 | zero =>
  intro h hh; (obtain rfl : h = H.length := by omega); have := hT.n; (refine Ev.step (f := fun _ => some ((List.range H.length).map (overW N G l), (0 : Int))) (fun k => ?_) (Ev.now _)); (simp only [cool_Play.l2]; rw [if_neg (by omega)])
 | succ d ih =>
  intro h hh; (have hlt : h < H.length := by omega); have hN := hT.n; have hin := hI.bn h hlt; unfold inB at hin; (refine Ev.step (f := fun k => cool_Play.l3 k (maskN l : Int) ((List.range h).map (overW N G l)) h (rd N (h : Int)) (accL (maskN l) G h 0) N (N.length : Int) h G (G.length : Int) ((0 : Nat) : Int) H S N G) (fun k => ?_) ?_)
  · simp only [cool_Play.l2]; (rw [if_pos (by omega), if_pos (by omega), if_pos (by omega), if_pos (by omega), cin_f, hin, Option.bind_some, if_pos rfl]); simp [accL]
  · (refine play_l3 hH hS N G hT l hi h hlt _ (by simp; omega) _ ?_ S.length 0 (by omega)); (have := ih (h + 1) (by omega)); rw [List.range_succ, List.map_append] at this; (rw [w1 (by omega)]); exact this
theorem play_l1 {H : List S60} {S : List S64} (hH : H.length ≤ 1000) (hv : validB H S = true) (N : List Int) (G : List (List Int)) (hI : TruthIn H S N G) (C : Int) (i : Nat) (hiS : i < S.length) (r : List Int × Int)
    (hk : Ev (fun k => cool_Play.l0 k C S (S.length : Int) (wrap64 ((i : Int) + 1)) H S N G) r) :
    ∀ d j : Nat, j + d = H.length → Ev (fun k => cool_Play.l1 k C S (S.length : Int) i (rd_L8 G (i : Int)) ((rd_L8 G (i : Int)).length : Int) j H S N G (rd_T64 S (i : Int)).f0 (rd_T64 S (i : Int)).f1 (rd_T64 S (i : Int)).f2) r := by
 have hr := hI.r i hiS; (have hf : (rd_T64 S (i : Int)).f2.length = H.length := by rw [rd64_at hiS]; exact (valid_more hv).1 _ (List.getElem_mem hiS)); intro d
 induction d with
 | zero =>
  intro j hj; (refine Ev.step (f := fun k => cool_Play.l0 k C S (S.length : Int) (wrap64 ((i : Int) + 1)) H S N G) (fun k => ?_) hk); (simp only [cool_Play.l1]; rw [if_neg (by omega)])
 | succ d ih =>
  intro j hj; (have hin := hI.bg i j hiS (by omega)); unfold inB at hin; (refine Ev.step (f := fun k => cool_Play.l1 k C S (S.length : Int) i (rd_L8 G (i : Int)) ((rd_L8 G (i : Int)).length : Int) ((j + 1 : Nat) : Int) H S N G (rd_T64 S (i : Int)).f0 (rd_T64 S (i : Int)).f1 (rd_T64 S (i : Int)).f2) (fun k => ?_) (ih (j + 1) (by omega))); simp only [cool_Play.l1]; (rw [if_pos (by omega), if_pos (by omega), if_pos (by omega), if_pos (by omega), cin_f, hin, Option.bind_some, if_pos rfl, w1 (by omega)])
theorem play_l0 {H : List S60} {S : List S64} (hH : H.length ≤ 1000) (hS : S.length ≤ 10) (hv : validB H S = true) (N : List Int) (G : List (List Int)) (hI : TruthIn H S N G) (l : List Int) (hi : incr S.length (-1) l = true) :
    ∀ d i : Nat, i + d = S.length → Ev (fun k => cool_Play.l0 k (maskN l : Int) S (S.length : Int) i H S N G) ((List.range H.length).map (overW N G l), 0) := by
 intro d
 induction d with
 | zero =>
  intro i hi0; (refine Ev.step (f := fun k => cool_Play.l2 k (maskN l : Int) [] N (N.length : Int) 0 H S N G) (fun k => ?_) ?_)
  · simp only [cool_Play.l0]; rw [if_neg (by omega)]
  · exact play_l2 hH hS N G (hI.ok hv) hI l hi H.length 0 (by omega)
 | succ d ih =>
  intro i hi0; have hG := hI.g; (have hr := hI.r i (by omega)); (refine Ev.step (f := fun k => cool_Play.l1 k (maskN l : Int) S (S.length : Int) i (rd_L8 G (i : Int)) ((rd_L8 G (i : Int)).length : Int) ((0 : Nat) : Int) H S N G (rd_T64 S (i : Int)).f0 (rd_T64 S (i : Int)).f1 (rd_T64 S (i : Int)).f2) (fun k => ?_) ?_)
  · simp only [cool_Play.l0]; (rw [if_pos (by omega), if_pos (by omega), if_pos (by omega), if_pos (by omega), if_pos (by omega)]; rfl)
  · (refine play_l1 hH hv N G hI _ i (by omega) _ ?_ H.length 0 (by omega)); (rw [w1 (by omega)]); (exact ih (i + 1) (by omega))
theorem Play_ev {H : List S60} {S : List S64} (hv : validB H S = true) (N : List Int) (G : List (List Int)) (hI : TruthIn H S N G) (l : List Int) (hi : incr S.length (-1) l = true) : Ev (fun k => cool_Play.f k H S l N G) ((List.range H.length).map (overW N G l), 0) := by
 obtain ⟨v1, v2, v3, v4, v5, v6⟩ := valid_facts hv; have hn := hI.n; have hg := hI.g; (have hb : Ev (fun k => cool_bits.f k H S l) ((maskN l : Int), true) := Ev.of (fun k => cool_bits.mono H S l k) (k := 12) (by rw [bits_f H S l v4 v3, hi, if_pos rfl])); (have h0 := play_l0 (by omega) v4 hv N G hI l hi S.length 0 (by omega))
 have hj : Ev (fun k => cool_Play.j0 k l false H S N G) ((List.range H.length).map (overW N G l), 0) := by
  refine Ev.step (f := fun k => (cool_bits.f k H S l).bind fun bt333 => (if bt333.2 = true then (cool_Play.l0 k bt333.1 S (S.length : Int) 0 H S N G) else (some (([] : List Int), 2)))) (fun k => ?_) ?_
  · simp only [cool_Play.j0]; rw [if_neg (by simp)]
  · refine Ev.bind hb ?_; (refine Ev.congr (fun k => ?_) h0); rw [if_pos rfl]; rfl
 (refine Ev.congr (fun k => ?_) hj); unfold cool_Play.f; (rw [show cool_valid.f H S = some true by unfold cool_valid.f; rw [hv], Option.bind_some, if_pos rfl, if_pos (by omega)]); (rw [show ((G.length : Int) != (S.length : Int)) = false by simp [hg]])
end Go.Proofs.Ytmkdllaagaimlaa.C
end
section
namespace Go.Proofs.Ytmkdllaagaimlaa.C
open Go.RowKit Go.Proofs.YtmkdllaagaimlaaW.PrintWords Go.Proofs.YtmkdllaagaimlaaW.PrintLast Go.Proofs.YtmkdllaagaimlaaW.PrintMore
set_option linter.unusedVariables false
set_option linter.unusedSimpArgs false
theorem cold_all {H : List S60} {S : List S64} (hv : validB H S = true) {h : Nat} (hh : h < H.length) (x : Int) : 0 ≤ cold S h x.toNat := by
 rcases Nat.lt_or_ge x.toNat S.length with h1 | h1
 · (have := cold_nonneg hv hh (x := (x.toNat : Int)) ⟨by omega, by omega⟩); rwa [Int.toNat_natCast] at this
 · unfold cold
   have e : rd_T64 S (x.toNat : Int) = z64 := by
    unfold rd_T64; rw [List.getD_eq_getElem?_getD, Int.toNat_natCast, List.getElem?_eq_none h1]; rfl
   (have e2 : rd_T58 z64.f2 (h : Int) = z58 := by unfold rd_T58 z64; rfl); rw [e, e2]; decide
theorem levelB_iff {H : List S60} {S : List S64} (hv : validB H S = true) {h f : Nat} (hh : h < H.length) {b : List Int} (hi : incr S.length (-1) b = true) : levelB H S h f (maskN b) = true ↔ ∀ t : List Int, t.Sublist b → t.length ≤ f → levelW H S (wo b t) h = true := by
 (have hb : ∀ x ∈ b, 0 ≤ x ∧ x < (S.length : Int) := fun x hx => (incr_lt hi x hx).2); obtain ⟨v1, v2, v3, v4, v5, v6⟩ := valid_facts hv; (have hm : memI (maskN b) = b := memI_mask (incr_sorted hi) fun x hx => by have := hb x hx; omega); have hs := incr_sorted hi; unfold levelB levelW colds; rw [hm]; constructor
 · intro h1 t ht hl; rw [decide_eq_true_eq] at h1 ⊢; rw [sum_wo _ b t hs ht]; (exact Int.le_trans h1 (drop_le (fun x => cold S h x.toNat) (cold_all hv hh) b t ht f hl))
 · intro h1; (obtain ⟨c, h2, h3, _, h4⟩ := drop_att (fun x : Int => cold S h x.toNat) b f); have := h1 c h2 h3; rw [decide_eq_true_eq] at this ⊢; rw [sum_wo _ b c hs h2] at this; rw [h4]; exact this
theorem worst_iff {H : List S60} {S : List S64} (hv : validB H S = true) {l : List Int} (hl : ∀ x ∈ l, 0 ≤ x ∧ x < (S.length : Int)) {h : Nat} (hh : h < H.length) : 0 ≤ overW (needsW H) (givesW S) l h ↔ levelW H S l h = true := by
 unfold overW levelW; rw [rd_needsW hh, decide_eq_true_eq]
 have e : (l.map fun x => rd (rd_L8 (givesW S) x) (h : Int)) = l.map fun x => cold S h x.toNat := by
  apply List.map_congr_left; intro x hx; obtain ⟨n, rfl⟩ := Int.eq_ofNat_of_zero_le (hl x hx).1; have := hl _ hx; (rw [rd_givesW hv (by omega) hh]; rfl)
 rw [e]; omega
def cut (b c : List Int) : List Int := b.filter fun x => decide (x ∈ c)
theorem cut_sub (b c : List Int) : (cut b c).Sublist b := List.filter_sublist ..
theorem wo_cut (b c : List Int) : wo b (cut b c) = wo b c := by
 unfold wo cut; apply List.filter_congr; intro x hx; simp [List.mem_filter, hx]
theorem cut_len : ∀ (b c : List Int), (cut b c).length + (wo b c).length = b.length
  | [], c => rfl
  | a :: b, c => by
    have := cut_len b c
    unfold cut wo at this ⊢
    rw [List.filter_cons, List.filter_cons]
    by_cases h : a ∈ c <;> simp [h] <;> omega
theorem wo_sub {S : List S64} {b c : List Int} (hb : ∀ x ∈ b, 0 ≤ x ∧ x < (S.length : Int)) : ∀ x ∈ wo b c, 0 ≤ x ∧ x < (S.length : Int) := fun x hx => hb x (List.mem_filter.1 hx).1
theorem wo_incr {m : Int} {b : List Int} (hi : incr m (-1) b = true) (c : List Int) : incr m (-1) (wo b c) = true :=
  incr_of ((incr_sorted hi).sublist (List.filter_sublist ..)) fun x hx => by
    have := incr_lt hi x (List.mem_filter.1 hx).1; omega
end Go.Proofs.Ytmkdllaagaimlaa.C
end
section
namespace Go.Proofs.Ytmkdllaagaimlaa.C
open Go.RowKit Go.Proofs.YtmkdllaagaimlaaW.PrintWords Go.Proofs.YtmkdllaagaimlaaW.PrintLast Go.Proofs.YtmkdllaagaimlaaW.PrintMore
set_option linter.unusedVariables false
set_option linter.unusedSimpArgs false
theorem find_congr {α : Type} {p q : α → Bool} : ∀ {l : List α}, (∀ x ∈ l, p x = q x) → l.find? p = l.find? q
  | [], _ => rfl
  | a :: l, h => by
    rw [List.find?_cons, List.find?_cons, h a (List.mem_cons_self ..), find_congr fun x hx => h x (List.mem_cons_of_mem _ hx)]
theorem combos_len {l : List Int} {n : Nat} : ∀ c ∈ combos l n, c.length = n := fun c hc => ((combos_iff l n c).1 hc).2
def rb (H : List S60) (S : List S64) (b : List Int) (f h : Nat) : Option (List Int) := ((List.range (f + 1)).flatMap fun m => combos b m).find? fun c => !levelW H S (wo b c) h
theorem rb_none {H : List S60} {S : List S64} (hv : validB H S = true) {b : List Int} (hi : incr S.length (-1) b = true) {h f : Nat} (hh : h < H.length) : rb H S b f h = none ↔ levelB H S h f (maskN b) = true := by
 rw [levelB_iff hv hh hi]; unfold rb; rw [List.find?_eq_none]; constructor
 · intro h1 t ht hl; (have := h1 t (List.mem_flatMap.2 ⟨t.length, List.mem_range.2 (by omega), (combos_iff _ _ _).2 ⟨ht, rfl⟩⟩)); simpa using this
 · intro h1 c hc; obtain ⟨m, hm, hc⟩ := List.mem_flatMap.1 hc; have := (combos_iff _ _ _).1 hc; have hm' := List.mem_range.1 hm; (simpa using h1 c this.1 (by omega))
theorem breakL_rb {H : List S60} {S : List S64} (hv : validB H S = true) {b : List Int} (hi : incr S.length (-1) b = true) {h f : Nat} {c : List Int} (hc : rb H S b f h = some c) : breakL H S (maskN b) h f = c := by
 (have hbS : ∀ x ∈ b, 0 ≤ x ∧ x < (S.length : Int) := fun x hx => (incr_lt hi x hx).2); obtain ⟨v1, v2, v3, v4, v5, v6⟩ := valid_facts hv; (have hb10 : ∀ x ∈ b, 0 ≤ x ∧ x < 10 := fun x hx => by have := hbS x hx; omega); have hs := incr_sorted hi; unfold breakL; rw [memI_mask hs hb10]
 have e1 : ((List.range (f + 1)).flatMap fun m => combosM b m 0) = ((List.range (f + 1)).flatMap fun m => combos b m).map maskN := by
  rw [List.map_flatMap]; congr 1; funext m; rw [combosM_eq]; apply List.map_congr_left; intro c _; simp
 rw [e1, List.find?_map]
 have e2 : (((List.range (f + 1)).flatMap fun m => combos b m).find? ((fun c => !levelB H S h 0 (clrM (maskN b) c)) ∘ maskN)) = rb H S b f h := by
  unfold rb; apply find_congr; intro c hc; obtain ⟨m, hm, hc⟩ := List.mem_flatMap.1 hc; have hcs := ((combos_iff _ _ _).1 hc).1; simp only [Function.comp]; (rw [levelB_zero, memI_clrM hs hb10 fun x hx => (hbS x (hcs.subset hx)).1])
 rw [e2, hc]; (have hcm : c ∈ (List.range (f + 1)).flatMap fun m => combos b m := List.mem_of_find?_eq_some hc); obtain ⟨m, hm, hcm⟩ := List.mem_flatMap.1 hcm; have hcs := ((combos_iff _ _ _).1 hcm).1; (exact memI_mask (hs.sublist hcs) fun x hx => hb10 x (hcs.subset hx))
end Go.Proofs.Ytmkdllaagaimlaa.C
end
section
namespace Go.Proofs.Ytmkdllaagaimlaa.C
open Go.RowKit Go.Proofs.YtmkdllaagaimlaaW.PrintWords Go.Proofs.YtmkdllaagaimlaaW.PrintLast Go.Proofs.YtmkdllaagaimlaaW.PrintMore
set_option linter.unusedVariables false
set_option linter.unusedSimpArgs false
theorem cmpL_cons (x : Int) (r s : List Int) : cmpL (x :: r) (x :: s) = cmpL r s := by
 simp [cmpL, cmpI]
theorem combos_sorted : ∀ (l : List Int), l.Pairwise (· < ·) → ∀ n, (combos l n).Pairwise fun x y => cmpL x y < 0
  | [], _, 0 => by simp [combos]
  | _ :: _, _, 0 => by simp [combos]
  | [], _, n + 1 => by simp [combos]
  | a :: r, h, n + 1 => by
    have h' := List.pairwise_cons.1 h
    simp only [combos]
    rw [List.pairwise_append]
    refine ⟨?_, combos_sorted r h'.2 (n + 1), ?_⟩
    · rw [List.pairwise_map]
      refine (combos_sorted r h'.2 n).imp ?_
      intro x y hxy
      rw [cmpL_cons]; exact hxy
    · intro u hu v hv
      obtain ⟨u', hu', rfl⟩ := List.mem_map.1 hu
      have hv' := (combos_iff _ _ _).1 hv
      cases v with
      | nil => simp at hv'
      | cons y v =>
        have hy := h'.1 y (hv'.1.subset (List.mem_cons_self ..))
        have : cmpI a y = -1 := by unfold cmpI; rw [if_pos hy]
        simp [cmpL, this]
def rlt (x y : List Int) : Prop := x.length < y.length ∨ (x.length = y.length ∧ cmpL x y < 0)
theorem all_sorted {l : List Int} (h : l.Pairwise (· < ·)) (n : Nat) : ((List.range n).flatMap fun m => combos l m).Pairwise rlt := by
 rw [List.pairwise_flatMap]; (refine ⟨fun m _ => ?_, ?_⟩)
 · refine (List.Pairwise.and_mem.1 (combos_sorted l h m)).imp ?_; intro x y ⟨hx, hy, hxy⟩; (exact .inr ⟨by rw [combos_len x hx, combos_len y hy], hxy⟩)
 · refine List.pairwise_lt_range.imp ?_; intro p q hpq x hx y hy; (exact .inl (by rw [combos_len x hx, combos_len y hy]; exact hpq))
theorem first_least {α : Type} {R : α → α → Prop} {p : α → Bool} {L : List α} (h : L.Pairwise R) {a c : α} (hf : L.find? p = some a) (hc : c ∈ L) (hp : p c = true) : c = a ∨ R a c := by
 obtain ⟨_, as_, bs, rfl, hno⟩ := List.find?_eq_some_iff_append.1 hf; (rcases List.mem_append.1 hc with h1 | h1)
 · have := hno c h1; rw [hp] at this; cases this
 · rcases List.mem_cons.1 h1 with rfl | h2
   · exact .inl rfl
   · have := (List.pairwise_append.1 h).2.1; exact .inr ((List.pairwise_cons.1 this).1 c h2)
theorem own_cut {m : Int} {b c : List Int} (hb : incr m (-1) b = true) (hc : incr m (-1) c = true) (h : (wo b c).length + c.length = b.length) : cut b c = c := by
 have hl := cut_len b c; have hs := incr_sorted hb; have hsc := incr_sorted hc
 have e : cut b c = cut c b := by
  apply ext_lt _ _ (hs.sublist (cut_sub b c)) (hsc.sublist (cut_sub c b)); intro x; unfold cut; simp only [List.mem_filter, decide_eq_true_eq]; (exact ⟨fun h => ⟨h.2, h.1⟩, fun h => ⟨h.2, h.1⟩⟩)
 (have hlen : (cut c b).length = c.length := by rw [← e]; omega); rw [e]; exact (cut_sub c b).eq_of_length hlen
theorem cut_own {b c : List Int} (hs : b.Pairwise (· < ·)) (hc : c.Sublist b) : cut b c = c := by
 apply ext_lt _ _ (hs.sublist (cut_sub b c)) (hs.sublist hc); intro x; unfold cut; simp only [List.mem_filter, decide_eq_true_eq]; (exact ⟨fun h => h.2, fun h => ⟨hc.subset h, h⟩⟩)
theorem rb_spec {H : List S60} {S : List S64} {b : List Int} {f h : Nat} {cc : List Int} (hs : b.Pairwise (· < ·)) (hr : rb H S b f h = some cc) : cc.Sublist b ∧ cc.length ≤ f ∧ levelW H S (wo b cc) h = false ∧
    ∀ c : List Int, c.Sublist b → c.length ≤ f → levelW H S (wo b c) h = false → cc.length < c.length ∨ (cc.length = c.length ∧ ¬ cmpL c cc < 0) := by
 unfold rb at hr; have h1 := List.mem_of_find?_eq_some hr; have h2 := List.find?_some hr; obtain ⟨m, hm, h1⟩ := List.mem_flatMap.1 h1; have h3 := (combos_iff _ _ _).1 h1; have h4 := List.mem_range.1 hm; (refine ⟨h3.1, by omega, by simpa using h2, fun c hc hl hw => ?_⟩); (have hcm : c ∈ (List.range (f + 1)).flatMap fun m => combos b m := List.mem_flatMap.2 ⟨c.length, List.mem_range.2 (by omega), (combos_iff _ _ _).2 ⟨hc, rfl⟩⟩); (rcases first_least (all_sorted hs (f + 1)) hr hcm (by simpa using hw) with rfl | h5 | ⟨h5, h6⟩)
 · exact .inr ⟨rfl, cmpL_irr _⟩
 · exact .inl h5
 · exact .inr ⟨h5, fun h7 => cmpL_irr _ (cmpL_trans _ _ _ h6 h7)⟩
end Go.Proofs.Ytmkdllaagaimlaa.C
end
section
namespace Go.Proofs.Ytmkdllaagaimlaa.C
open Go.RowKit Go.Proofs.YtmkdllaagaimlaaW.PrintWords Go.Proofs.YtmkdllaagaimlaaW.PrintLast Go.Proofs.YtmkdllaagaimlaaW.PrintMore
set_option linter.unusedVariables false
set_option linter.unusedSimpArgs false
def ovL (H : List S60) (S : List S64) (l : List Int) : List Int := (List.range H.length).map (overW (needsW H) (givesW S) l)
theorem ovL_len (H : List S60) (S : List S64) (l : List Int) : (ovL H S l).length = H.length := by simp [ovL]
theorem ovL_at {H : List S60} {S : List S64} (hv : validB H S = true) {l : List Int} (hl : ∀ x ∈ l, 0 ≤ x ∧ x < (S.length : Int)) {h : Nat} (hh : h < H.length) : 0 ≤ rd (ovL H S l) (h : Int) ↔ levelW H S l h = true := by
 (rw [rd_at (by rw [ovL_len]; exact hh), ← worst_iff hv hl hh]); simp [ovL]
theorem broken_l0 (e : Int) (he : e = 6) (own : Bool) (L : List Int) (hL : L.length ≤ 1000) (h0 : own = true → ∀ i : Nat, i < L.length → 0 ≤ rd L (i : Int)) : ∀ d i : Nat, i + d = L.length → Ev (fun k => taliklaw03_CoolBroken.l0 k e own L i) true := by
 intro d
 induction d with
 | zero =>
  intro i hi; (refine Ev.step (f := fun k => (taliklaw03_known.f k).bind fun t => some t) (fun k => ?_) known_ev'); (simp only [taliklaw03_CoolBroken.l0]; rw [if_neg (by omega), if_pos he])
 | succ d ih =>
  intro i hi; (refine Ev.step (f := fun k => taliklaw03_CoolBroken.l0 k e own L ((i + 1 : Nat) : Int)) (fun k => ?_) (ih (i + 1) (by omega))); simp only [taliklaw03_CoolBroken.l0]; (rw [if_pos (by omega)])
  cases own with
  | true => have := h0 rfl i (by omega); rw [if_pos rfl, if_pos (by omega), if_neg (by omega), w1 (by omega)]
  | false => rw [if_neg (by simp), w1 (by omega)]
theorem broken_l1 (c cc L : List Int) (h : Nat) (hL : L.length ≤ 1000) (hh : h < L.length) (h0 : ∀ i : Nat, i < h → 0 ≤ rd L (i : Int)) (hc : c.length ≤ 1000) (hend : rd L (h : Int) < 0 → cc.length < c.length ∨ (cc.length = c.length ∧ ¬ cmpL c cc < 0)) : ∀ d i : Nat, i + d = h → Ev (fun k => taliklaw03_CoolBroken.l1 k c h cc L i) true := by
 intro d
 induction d with
 | zero =>
  intro i hi; (refine Ev.step (fun k => by simp only [taliklaw03_CoolBroken.l1]; exact rfl) ?_); (have hi1 : ¬ ((i : Nat) : Int) < (h : Int) := by omega); (have hi2 : (0 : Int) ≤ (h : Int) := by omega); (have hi3 : (h : Int) < (L.length : Int) := by omega); simp only [hi1, hi2, hi3, if_true, if_false]; by_cases hr : rd L (h : Int) ≥ 0
  · simp only [hr, if_true]; exact known_ev'
  · simp only [hr, if_false]; (rcases hend (by omega) with h1 | ⟨h1, h2⟩)
    · (have : (c.length : Int) > (cc.length : Int) := by omega); simp only [this, if_true]; exact known_ev'
    · (have h3 : ¬ (c.length : Int) > (cc.length : Int) := by omega); (have h4 : (c.length : Int) = (cc.length : Int) := by omega); have hB := Before_ev c cc hc h1.symm; rw [decide_eq_false h2] at hB; (have hx : Ev (fun k => (talikref03_Before.f k c cc).bind fun t700 => (if t700 = true then (some false) else ((taliklaw03_known.f k).bind fun t701 => (some t701)))) true := Ev.bind hB (by simpa using known_ev')); (refine Ev.congr (fun k => ?_) hx); rw [if_neg h3, if_pos h4]
 | succ d ih =>
  intro i hi; (have := h0 i (by omega)); (refine Ev.step (f := fun k => taliklaw03_CoolBroken.l1 k c h cc L ((i + 1 : Nat) : Int)) (fun k => ?_) (ih (i + 1) (by omega))); simp only [taliklaw03_CoolBroken.l1]; (rw [if_pos (by omega), if_pos (by omega), if_pos (by omega), if_neg (by omega), w1 (by omega)])
theorem CoolBroken_pure (H : List S60) (S : List S64) (b : List Int) (a : Int) (c : List Int) (hH : H.length ≤ 9223372036854775807) (hS : S.length ≤ 9223372036854775807) (hG : ∀ s ∈ S, s.f2.length ≤ 9223372036854775807) (hb : b.length ≤ 9223372036854775807) (_ : (Lit.int .i64 a).wf = true) (hc : c.length ≤ 9223372036854775807) : Ev (fun k => taliklaw03_CoolBroken.f k H S b a c) true := by
  have hj1 : Ev (fun k => taliklaw03_CoolBroken.j0 k b a c true H S) true :=
    Ev.step (f := fun k => (taliklaw03_known.f k).bind fun t => some t) (fun k => by simp only [taliklaw03_CoolBroken.j0]; rw [if_pos trivial]) known_ev'
  unfold taliklaw03_CoolBroken.f
  refine Ev.bind (short_ev H S hS) ?_
  cases hsh : shortB H S with
  | false => simpa using hj1
  | true =>
    simp only [if_true]
    by_cases hb15 : 15 < b.length
    · refine Ev.congr (fun k => ?_) hj1; rw [if_pos (by omega)]
    · by_cases hc15 : 15 < c.length
      · refine Ev.congr (fun k => ?_) hj1; rw [if_neg (by omega), if_pos (by omega)]
      · have n1 : ¬ (b.length : Int) > 15 := by omega
        have n2 : ¬ (c.length : Int) > 15 := by omega
        simp only [n1, n2, if_false]
        refine Ev.bind (asked_ev H S b hH hS hG hb) ?_
        cases ha : askedB H S b with
        | false => simpa using hj1
        | true =>
          simp only [if_true]
          refine Ev.bind (Coolers_ev H S c hS hc) ?_
          cases hci : incr S.length (-1) c with
          | false => simpa using hj1
          | true =>
            simp only [if_true]
            refine Ev.bind (Fails_ev a) ?_
            cases hf : (decide (0 ≤ a) && decide (a ≤ 3)) with
            | false => simpa using hj1
            | true =>
              unfold askedB at ha
              rw [Bool.and_eq_true] at ha
              obtain ⟨hv, hi⟩ := ha
              simp only [Bool.not_true]
              obtain ⟨v1, v2, v3, v4, v5, v6⟩ := valid_facts hv
              have hbS : ∀ x ∈ b, 0 ≤ x ∧ x < (S.length : Int) := fun x hx => (incr_lt hi x hx).2
              have hs := incr_sorted hi
              have hgo : givenO H S b true = some (maskN b) := by unfold givenO; rw [hv, hi]; rfl
              rw [Bool.and_eq_true, decide_eq_true_eq, decide_eq_true_eq] at hf
              obtain ⟨q, rfl⟩ := Int.eq_ofNat_of_zero_le hf.1
              have hf' : (decide (0 ≤ ((q : Nat) : Int)) && decide (((q : Nat) : Int) ≤ 3)) = true := by rw [Bool.and_eq_true, decide_eq_true_eq, decide_eq_true_eq]; exact hf
              have hcl := cut_len b c
              have hwl : (wo b c).length ≤ b.length := by omega
              -- behind the break
              have hj : ∀ own : Bool, (own = true → c.length ≤ q ∧ cut b c = c) → Ev (fun k => taliklaw03_CoolBroken.j1 k b q c (breakV H S b q).1 (breakV H S b q).2.1 (breakV H S b q).2.2 own H S) true := by
                intro own hown
                have hp : ∀ {l : List Int}, (∀ x ∈ l, 0 ≤ x ∧ x < (S.length : Int)) → incr S.length (-1) l = true → Ev (fun k => cool_Play.f k H S l (needsW H) (givesW S)) (ovL H S l, 0) := fun _ hl => Play_ev hv _ _ (worst_in hv) _ hl
                refine Ev.step (fun k => by simp only [taliklaw03_CoolBroken.j1]; exact rfl) ?_
                refine Ev.bind (Without_ev b c (by omega) (by omega)) ?_
                refine Ev.bind (Worst_ev H S (by omega) (by omega) (valid_more hv).1) ?_
                refine Ev.bind (hp (wo_sub hbS) (wo_incr hi c)) ?_
                simp only [if_true, ovL_len, bne_self_eq_false]
                refine Ev.step (fun k => by simp only [taliklaw03_CoolBroken.j2]; exact rfl) ?_
                simp only [Bool.false_eq_true, if_false]
                cases hk : brk H S q (maskN b) with
                | none =>
                  have e2 : breakV H S b q = (0, [], 6) := by unfold breakV; rw [hf', hgo]; simp [hk]
                  rw [e2]
                  have h6 : ¬ (6 : Int) = 0 := by omega
                  simp only [h6, if_false]
                  refine broken_l0 6 rfl own (ovL H S (wo b c)) (by rw [ovL_len]; omega) (fun ho i hi' => ?_) H.length 0 (by rw [ovL_len]; omega)
                  rw [ovL_len] at hi'
                  obtain ⟨h1, h2⟩ := hown ho
                  have := (levelB_iff hv hi' hi).1 (brk_no.1 hk i hi') (cut b c) (cut_sub b c) (by rw [h2]; exact h1)
                  rw [wo_cut] at this
                  exact (ovL_at hv (wo_sub hbS) hi').2 this
                | some h =>
                  have e2 : breakV H S b q = ((h : Int), breakL H S (maskN b) h q, 0) := by unfold breakV; rw [hf', hgo]; simp [hk]
                  have hk' := hk
                  unfold brk at hk'
                  rw [List.find?_range_eq_some] at hk'
                  obtain ⟨k1, k2, k3⟩ := hk'
                  have hh := List.mem_range.1 k2
                  have hlf : levelB H S h q (maskN b) = false := by simpa using k1
                  obtain ⟨cc, hcc⟩ : ∃ cc, rb H S b q h = some cc := by
                    cases hr : rb H S b q h with
                    | some cc => exact ⟨cc, rfl⟩
                    | none => rw [(rb_none hv hi hh).1 hr] at hlf; cases hlf
                  rw [e2, breakL_rb hv hi hcc]
                  obtain ⟨s1, s2, s3, s4⟩ := rb_spec hs hcc
                  have hccS : ∀ x ∈ cc, 0 ≤ x ∧ x < (S.length : Int) := fun x hx => hbS x (s1.subset hx)
                  have hcci : incr S.length (-1) cc = true := incr_of (hs.sublist s1) fun x hx => by have := hccS x hx; omega
                  have hccl := s1.length_le
                  have hcut := cut_own hs s1
                  have hcl2 := cut_len b cc
                  rw [hcut] at hcl2
                  have c1 : ¬ (h : Int) < 0 := by omega
                  have c2 : ¬ (h : Int) ≥ (H.length : Int) := by omega
                  have c3 : ¬ (cc.length : Int) > (q : Int) := by omega
                  simp only [if_true, c1, c2, c3, if_false]
                  refine Ev.bind (Coolers_ev H S cc hS (by omega)) ?_
                  rw [hcci]
                  simp only [if_true]
                  refine Ev.bind (Without_ev b cc (by omega) (by omega)) ?_
                  have hw : wrap64 ((b.length : Int) - (cc.length : Int)) = ((wo b cc).length : Int) := by rw [wrap64_of _ (by omega) (by omega)]; omega
                  rw [hw]
                  simp only [bne_self_eq_false]
                  refine Ev.step (fun k => by simp only [taliklaw03_CoolBroken.j4]; exact rfl) ?_
                  simp only [Bool.false_eq_true, if_false]
                  refine Ev.bind (Without_ev b cc (by omega) (by omega)) ?_
                  refine Ev.bind (Worst_ev H S (by omega) (by omega) (valid_more hv).1) ?_
                  refine Ev.bind (hp (wo_sub hbS) (wo_incr hi cc)) ?_
                  have c4 : (0 : Int) ≤ (h : Int) := by omega
                  have c5 : (h : Int) < (H.length : Int) := by omega
                  have c6 : ¬ rd (ovL H S (wo b cc)) (h : Int) ≥ 0 := fun hge => by
                    rw [(ovL_at hv (wo_sub hbS) hh).1 hge] at s3; cases s3
                  simp only [if_true, ovL_len, c4, c5, decide_eq_false c6]
                  refine Ev.step (fun k => by simp only [taliklaw03_CoolBroken.j5]; exact rfl) ?_
                  simp only [Bool.false_eq_true, if_false]
                  cases own with
                  | false => simpa using known_ev'
                  | true =>
                    simp only [if_true]
                    obtain ⟨o1, o2⟩ := hown rfl
                    have hcb : c.Sublist b := by rw [← o2]; exact cut_sub b c
                    refine broken_l1 c cc (ovL H S (wo b c)) h (by rw [ovL_len]; omega) (by rw [ovL_len]; exact hh) (fun i hi' => ?_) (by omega) (fun hneg => ?_) h 0 (by omega)
                    · have hih : i < H.length := by omega
                      have hlb : levelB H S i q (maskN b) = true := by simpa using k3 i hi'
                      exact (ovL_at hv (wo_sub hbS) hih).2 ((levelB_iff hv hih hi).1 hlb c hcb o1)
                    · refine s4 c hcb o1 ?_
                      cases hlw : levelW H S (wo b c) h with
                      | false => rfl
                      | true => have := (ovL_at hv (wo_sub (c := c) hbS) hh).2 hlw; omega
              refine Ev.step (fun k => by simp only [taliklaw03_CoolBroken.j0]; exact rfl) ?_
              simp only [Bool.false_eq_true, if_false, cool_Break.f, Option.bind_some]
              by_cases hcq : c.length ≤ q
              · have hcq' : (c.length : Int) ≤ (q : Int) := by omega
                simp only [hcq', if_true]
                refine Ev.bind (Without_ev b c (by omega) (by omega)) ?_
                refine hj _ fun h => ⟨hcq, own_cut hi hci ?_⟩
                rw [wrap64_of _ (by omega) (by omega)] at h
                have := beq_iff_eq.1 h
                omega
              · have hcq' : ¬ (c.length : Int) ≤ (q : Int) := by omega
                simp only [hcq', if_false]
                exact hj false fun h => by cases h
end Go.Proofs.Ytmkdllaagaimlaa.C
end
