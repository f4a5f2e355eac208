/- For every town, every number of failures and every proposed list of coolers, the law CoolRivals returns true and its arguments read afterwards as before; no condition. -/
import Derived.Test.YtmkdllaagaimlaaRows
import Derived.Test.YtmkdllaagaimlaaRV3
import Derived.ChangeSame
import Derived.Deep.Strs
import Derived.Deep.Slices
import Derived.WalkKit
import Derived.ProofKit
import Derived.OpenShut
import Derived.ShutString
import Derived.ChangeOld
import Derived.Below
import Derived.SizedLaws
import Derived.Carry
section
namespace Go.Proofs.Ytmkdllaagaimlaa.C
open Go.RowKit Go.Proofs.YtmkdllaagaimlaaW.PrintWords Go.Proofs.YtmkdllaagaimlaaW.PrintLast Go.Proofs.YtmkdllaagaimlaaW.PrintMore
attribute [local go_sem] max2_int min2_int max_two min_two max_three min_three max_four min_four   -- for this text's walks alone
set_option linter.unusedVariables false
set_option linter.unusedSimpArgs false
def talikref03_Coolers.l0 : Nat → List Int → Int → List (S60) → List (S64) → Option (Bool)
  | 0, _, _, _, _ => none
  | k + 1, x1, x5, x431000, x431001 => if x5 < (x1.length : Int) then (if 0 ≤ x5 then ((talikref03_in.f (rd x1 x5) 0 (wrap64 ((x431001.length : Int) - 1))).bind fun t432 => (if t432 = true then (if x5 > 0 then (if 0 ≤ (wrap64 (x5 - 1)) then (if (wrap64 (x5 - 1)) < (x1.length : Int) then (if (rd x1 x5) ≤ (rd x1 (wrap64 (x5 - 1))) then (some false) else (talikref03_Coolers.l0 k x1 (wrap64 (x5 + 1)) x431000 x431001)) else (none)) else (none)) else (talikref03_Coolers.l0 k x1 (wrap64 (x5 + 1)) x431000 x431001)) else (some false))) else (none)) else (some true)
def talikref03_Coolers.f (k : Nat) (l0_0 : List (S60)) (l0_1 : List (S64)) (l1 : List Int) : Option (Bool) := talikref03_Coolers.l0 k l1 0 l0_0 l0_1
set_option maxHeartbeats 8000000 in
set_option maxRecDepth 100000 in
theorem talikref03_Coolers.calls (k : Nat) (A0_0 : Option Addr) (c0_0 : Nat) (l0_0 : List (S60)) (A0_1 : Option Addr) (c0_1 : Nat) (l0_1 : List (S64)) (A1 : Option Addr) (c1 : Nat) (l1 : List Int) (r : Bool) (w : World) (hr0_0 : Kd.C k60 w A0_0 l0_0.length l0_0) (hc0_0 : l0_0.length ≤ c0_0) (hr0_1 : Kd.C k64 w A0_1 l0_1.length l0_1) (hc0_1 : l0_1.length ≤ c0_1) (hr1 : Kd.C (Kd.int .i64) w A1 l1.length l1) (hc1 : l1.length ≤ c1) (h : talikref03_Coolers.f k l0_0 l0_1 l1 = some r) :
    Calls Try.prog 24 #[.agg #[.slice A0_0 l0_0.length c0_0, .slice A0_1 l0_1.length c0_1], .slice A1 l1.length c1] w fun e w' => e = .returned (.bool r) ∧ Below w.heap.size w w' := by
  have hu25 := Try.underlying25
  have HR0_0 := Aside0.mk hr0_0
  have HC0_0 := Aside0.mk hc0_0
  clear hr0_0 hc0_0
  have HR0_1 := Aside0.mk hr0_1
  have HC0_1 := Aside0.mk hc0_1
  clear hr0_1 hc0_1
  have HR1 := Aside0.mk hr1
  have HC1 := Aside0.mk hc1
  clear hr1 hc1
  have HB := Aside0.mk (Below.refl w.heap.size w)
  have H : (talikref03_Coolers.l0 k l1 0 l0_0 l0_1) = some r := h
  clear h
  have H' := Aside0.mk H
  clear H
  go_enter Try.func24, Try.ntmps24
  go_wp2_with (first | ((with_reducible refine gate_dst (N := 2) rfl ?_); refine box_event ?hg (N := 2) ?hd (cs := #[.slice A0_0 l0_0.length c0_0, .slice A0_1 l0_1.length c0_1]) (t := 25) ?hr ?_; (case hd => rfl); (case hg => rfl); (case hr => first | (go_simp; done) | (go_simp; rfl)); intro gb430 hg w3 hbox hb; have n0_ := Aside0.mk (below_step (by repeat (first | (with_reducible first | exact HB.out | apply below_alloc | apply pw_below_drewN | apply below_drew1) | exact HB.out)) hb); have n1_ := Aside0.mk (hbox); have n2_ := Aside0.mk ((by rw [hg]; exact (below_size (by repeat (first | (with_reducible first | exact HB.out | apply below_alloc | apply pw_below_drewN | apply below_drew1) | exact HB.out))) : w.heap.size ≤ gb430)); have n3_ := Aside0.mk ((by rw [hg]; exact (below_size (by repeat (first | (with_reducible first | exact HB.out | apply below_alloc | apply pw_below_drewN | apply below_drew1) | exact HB.out))) : w.heap.size ≤ gb430)); clear HB; have HB := n0_; have BK430 := n1_; have GW430 := n2_; have GE430 := n3_; clear n0_ n1_ n2_ n3_; clear hb hbox hg))
  repeat (go_quiet (first | ((with_reducible refine gate_dst (N := 2) rfl ?_); refine box_event ?hg (N := 2) ?hd (cs := #[.slice A0_0 l0_0.length c0_0, .slice A0_1 l0_1.length c0_1]) (t := 25) ?hr ?_; (case hd => rfl); (case hg => rfl); (case hr => first | (go_simp; done) | (go_simp; rfl)); intro gb430 hg w3 hbox hb; have n0_ := Aside0.mk (below_step (by repeat (first | (with_reducible first | exact HB.out | apply below_alloc | apply pw_below_drewN | apply below_drew1) | exact HB.out)) hb); have n1_ := Aside0.mk (hbox); have n2_ := Aside0.mk ((by rw [hg]; exact (below_size (by repeat (first | (with_reducible first | exact HB.out | apply below_alloc | apply pw_below_drewN | apply below_drew1) | exact HB.out))) : w.heap.size ≤ gb430)); have n3_ := Aside0.mk ((by rw [hg]; exact (below_size (by repeat (first | (with_reducible first | exact HB.out | apply below_alloc | apply pw_below_drewN | apply below_drew1) | exact HB.out))) : w.heap.size ≤ gb430)); clear HB; have HB := n0_; have BK430 := n1_; have GW430 := n2_; have GE430 := n3_; clear n0_ n1_ n2_ n3_; clear hb hbox hg)); try go_wp2_with (first | ((with_reducible refine gate_dst (N := 2) rfl ?_); refine box_event ?hg (N := 2) ?hd (cs := #[.slice A0_0 l0_0.length c0_0, .slice A0_1 l0_1.length c0_1]) (t := 25) ?hr ?_; (case hd => rfl); (case hg => rfl); (case hr => first | (go_simp; done) | (go_simp; rfl)); intro gb430 hg w3 hbox hb; have n0_ := Aside0.mk (below_step (by repeat (first | (with_reducible first | exact HB.out | apply below_alloc | apply pw_below_drewN | apply below_drew1) | exact HB.out)) hb); have n1_ := Aside0.mk (hbox); have n2_ := Aside0.mk ((by rw [hg]; exact (below_size (by repeat (first | (with_reducible first | exact HB.out | apply below_alloc | apply pw_below_drewN | apply below_drew1) | exact HB.out))) : w.heap.size ≤ gb430)); have n3_ := Aside0.mk ((by rw [hg]; exact (below_size (by repeat (first | (with_reducible first | exact HB.out | apply below_alloc | apply pw_below_drewN | apply below_drew1) | exact HB.out))) : w.heap.size ≤ gb430)); clear HB; have HB := n0_; have BK430 := n1_; have GW430 := n2_; have GE430 := n3_; clear n0_ n1_ n2_ n3_; clear hb hbox hg)))
  go_loopg [5] k (fun kq v5 w' => ∃ (x5_1 : Int), v5 = .int .i64 x5_1 ∧ Aside0 (talikref03_Coolers.l0 kq l1 x5_1 l0_0 l0_1 = some r) ∧ Aside0 (kq ≤ k) ∧ Aside0 (w'.heap[gb430]? = some (.cells #[(.slice A0_0 l0_0.length c0_0), (.slice A0_1 l0_1.length c0_1)] 25 (0, 0))) ∧ Aside0 (Below w.heap.size w w'))
  case atStart => exact ⟨(0), (by first | rfl | (simp; done) | (simp [*]; done)), H', ⟨Nat.le_refl _⟩, ⟨by (with_reducible repeat (first | refine blk_drewN ?_ _ | refine blk_drew ?_ | refine blk_alloc ?_ _)); exact BK430.out⟩, ⟨by repeat (first | (with_reducible first | exact HB.out | apply below_alloc | apply pw_below_drewN | apply below_drew1 | refine below_set ?_ GE430.out) | exact HB.out)⟩⟩
  case round =>
    clear H'
    try clear c1
    try clear c2
    try clear p2
    obtain ⟨x5_1, rfl, HA, HK1, BK430, HB⟩ := hrel
    cases gk with
    | zero => exact absurd HA.out (by simp [talikref03_Coolers.l0])
    | succ k1 =>
      have H := HA.out
      clear HA
      simp only [talikref03_Coolers.l0] at H
      by_cases c4 : x5_1 < (l1.length : Int)
      · rw [if_pos c4] at H
        have c4b0 : decide (x5_1 < (l1.length : Int)) = true := decide_eq_true c4
        clear c4
        by_cases c5 : 0 ≤ x5_1
        · rw [if_pos c5] at H
          have c5b0 : decide (0 ≤ x5_1) = true := decide_eq_true c5
          clear c5
          replace H := Option.bind_eq_some_iff.mp H
          obtain ⟨t432, A60, H⟩ := H
          replace H : (if t432 = true then (if x5_1 > 0 then (if 0 ≤ (wrap64 (x5_1 - 1)) then (if (wrap64 (x5_1 - 1)) < (l1.length : Int) then (if (rd l1 x5_1) ≤ (rd l1 (wrap64 (x5_1 - 1))) then (some false) else (talikref03_Coolers.l0 k1 l1 (wrap64 (x5_1 + 1)) l0_0 l0_1)) else (none)) else (none)) else (talikref03_Coolers.l0 k1 l1 (wrap64 (x5_1 + 1)) l0_0 l0_1)) else (some false)) = some r := H
          have A6 := Aside0.mk A60
          clear A60
          by_cases c7 : t432 = true
          · subst c7
            have H1 : (if x5_1 > 0 then (if 0 ≤ (wrap64 (x5_1 - 1)) then (if (wrap64 (x5_1 - 1)) < (l1.length : Int) then (if (rd l1 x5_1) ≤ (rd l1 (wrap64 (x5_1 - 1))) then (some false) else (talikref03_Coolers.l0 k1 l1 (wrap64 (x5_1 + 1)) l0_0 l0_1)) else (none)) else (none)) else (talikref03_Coolers.l0 k1 l1 (wrap64 (x5_1 + 1)) l0_0 l0_1)) = some r := by rw [if_pos rfl] at H; exact H
            clear H
            have H := H1
            clear H1
            by_cases c8 : x5_1 > 0
            · rw [if_pos c8] at H
              have c8b0 : decide (0 < x5_1) = true := decide_eq_true c8
              clear c8
              obtain ⟨ji9, hji9⟩ : ∃ j_ : Int, (wrap64 (x5_1 - 1)) = j_ := ⟨_, rfl⟩
              replace H : (if 0 ≤ (ji9) then (if (ji9) < (l1.length : Int) then (if (rd l1 x5_1) ≤ (rd l1 (ji9)) then (some false) else (talikref03_Coolers.l0 k1 l1 (wrap64 (x5_1 + 1)) l0_0 l0_1)) else (none)) else (none)) = some r := by first | (rw [hji9] at H; exact H) | (simp only [hji9] at H ⊢; exact H)
              (try rw [hji9] at A6)
              have hji9w : (IntKind.i64.wrap (x5_1 - 1)) = ji9 := (i64_w _).trans hji9
              by_cases c10 : 0 ≤ (ji9)
              · rw [if_pos c10] at H
                have c10b0 : decide (0 ≤ (ji9)) = true := decide_eq_true c10
                clear c10
                by_cases c11 : (ji9) < (l1.length : Int)
                · rw [if_pos c11] at H
                  have c11b0 : decide ((ji9) < (l1.length : Int)) = true := decide_eq_true c11
                  clear c11
                  by_cases c12 : (rd l1 x5_1) ≤ (rd l1 (ji9))
                  · rw [if_pos c12] at H
                    have c12b0 : decide ((rd l1 x5_1) ≤ (rd l1 (ji9))) = true := decide_eq_true c12
                    clear c12
                    obtain rfl := Option.some.inj H
                    have p431 : 0 ≤ (x5_1 : Int) := of_decide_eq_true (by first | (with_reducible assumption) | assumption)
                    have q431 : x5_1 < (l1.length : Int) := of_decide_eq_true (by first | (with_reducible assumption) | assumption)
                    obtain ⟨ad431, e431, hx431_0⟩ := Kd.at_int HR1.out x5_1 p431 q431
                    cases e431
                    replace hx431_0 := (HB.out.cell (World.block_lt_of_cell? w _ hx431_0)).trans hx431_0
                    replace p431 := eq_true p431
                    replace q431 := eq_true q431
                    have p9_ : 0 ≤ (ji9 : Int) := of_decide_eq_true (by first | (with_reducible assumption) | assumption)
                    have q9_ : ji9 < (l1.length : Int) := of_decide_eq_true (by first | (with_reducible assumption) | assumption)
                    obtain ⟨ad9_, e9_, hx9_⟩ := Kd.at_int HR1.out ji9 p9_ q9_
                    cases e9_
                    replace hx9_ := (HB.out.cell (World.block_lt_of_cell? w _ hx9_)).trans hx9_
                    replace p9_ := eq_true p9_
                    replace q9_ := eq_true q9_
                    have hw_ : IntKind.i64.wrap ((l0_1.length : Int) - 1) = wrap64 ((l0_1.length : Int) - 1) := i64_w _
                    have hcz13_0 : wr.cell? ⟨gb430, 0, none⟩ = some (.slice A0_0 l0_0.length c0_0) := (blk_cell BK430.out 0).trans rfl
                    have hcz13_1 : wr.cell? ⟨gb430, 1, none⟩ = some (.slice A0_1 l0_1.length c0_1) := (blk_cell BK430.out 1).trans rfl
                    have hfz13_0 := blk_frozen BK430.out 0
                    have hfz13_1 := blk_frozen BK430.out 1
                    go_wp2_with (first | (go_at_call 45; (with_reducible refine (talikref03_in.calls (rd l1 x5_1) 0 (wrap64 ((l0_1.length : Int) - 1)) true _ A6.out).mono ?_); rintro e w' ⟨rfl, ⟨nd, rfl⟩⟩; (try first | exact ⟨rfl, _, World.drewN_drewN _ _ _⟩ | exact ⟨rfl, _, Eq.trans (World.drewN_drewN _ _ _) (congrArg (World.drewN _) (Nat.add_assoc _ _ _))⟩); have p433 : 0 ≤ (x5_1 : Int) := of_decide_eq_true (by first | (with_reducible assumption) | assumption); have q433 : x5_1 < (l1.length : Int) := of_decide_eq_true (by first | (with_reducible assumption) | assumption); obtain ⟨ad433, e433, hx433_0⟩ := Kd.at_int HR1.out x5_1 p433 q433; obtain rfl : ad431 = ad433 := (by injection e433); replace hx433_0 := (HB.out.cell (World.block_lt_of_cell? w _ hx433_0)).trans hx433_0; replace p433 := eq_true p433; replace q433 := eq_true q433; have p434 : 0 ≤ ((ji9) : Int) := of_decide_eq_true (by first | (with_reducible assumption) | assumption); have q434 : (ji9) < (l1.length : Int) := of_decide_eq_true (by first | (with_reducible assumption) | assumption); obtain ⟨ad434, e434, hx434_0⟩ := Kd.at_int HR1.out (ji9) p434 q434; obtain rfl : ad431 = ad434 := (by injection e434); replace hx434_0 := (HB.out.cell (World.block_lt_of_cell? w _ hx434_0)).trans hx434_0; replace p434 := eq_true p434; replace q434 := eq_true q434))
                    repeat (go_quiet (first | (go_at_call 45; (with_reducible refine (talikref03_in.calls (rd l1 x5_1) 0 (wrap64 ((l0_1.length : Int) - 1)) true _ A6.out).mono ?_); rintro e w' ⟨rfl, ⟨nd, rfl⟩⟩; (try first | exact ⟨rfl, _, World.drewN_drewN _ _ _⟩ | exact ⟨rfl, _, Eq.trans (World.drewN_drewN _ _ _) (congrArg (World.drewN _) (Nat.add_assoc _ _ _))⟩); have p433 : 0 ≤ (x5_1 : Int) := of_decide_eq_true (by first | (with_reducible assumption) | assumption); have q433 : x5_1 < (l1.length : Int) := of_decide_eq_true (by first | (with_reducible assumption) | assumption); obtain ⟨ad433, e433, hx433_0⟩ := Kd.at_int HR1.out x5_1 p433 q433; obtain rfl : ad431 = ad433 := (by injection e433); replace hx433_0 := (HB.out.cell (World.block_lt_of_cell? w _ hx433_0)).trans hx433_0; replace p433 := eq_true p433; replace q433 := eq_true q433; have p434 : 0 ≤ ((ji9) : Int) := of_decide_eq_true (by first | (with_reducible assumption) | assumption); have q434 : (ji9) < (l1.length : Int) := of_decide_eq_true (by first | (with_reducible assumption) | assumption); obtain ⟨ad434, e434, hx434_0⟩ := Kd.at_int HR1.out (ji9) p434 q434; obtain rfl : ad431 = ad434 := (by injection e434); replace hx434_0 := (HB.out.cell (World.block_lt_of_cell? w _ hx434_0)).trans hx434_0; replace p434 := eq_true p434; replace q434 := eq_true q434)); try go_wp2_with (first | (go_at_call 45; (with_reducible refine (talikref03_in.calls (rd l1 x5_1) 0 (wrap64 ((l0_1.length : Int) - 1)) true _ A6.out).mono ?_); rintro e w' ⟨rfl, ⟨nd, rfl⟩⟩; (try first | exact ⟨rfl, _, World.drewN_drewN _ _ _⟩ | exact ⟨rfl, _, Eq.trans (World.drewN_drewN _ _ _) (congrArg (World.drewN _) (Nat.add_assoc _ _ _))⟩); have p433 : 0 ≤ (x5_1 : Int) := of_decide_eq_true (by first | (with_reducible assumption) | assumption); have q433 : x5_1 < (l1.length : Int) := of_decide_eq_true (by first | (with_reducible assumption) | assumption); obtain ⟨ad433, e433, hx433_0⟩ := Kd.at_int HR1.out x5_1 p433 q433; obtain rfl : ad431 = ad433 := (by injection e433); replace hx433_0 := (HB.out.cell (World.block_lt_of_cell? w _ hx433_0)).trans hx433_0; replace p433 := eq_true p433; replace q433 := eq_true q433; have p434 : 0 ≤ ((ji9) : Int) := of_decide_eq_true (by first | (with_reducible assumption) | assumption); have q434 : (ji9) < (l1.length : Int) := of_decide_eq_true (by first | (with_reducible assumption) | assumption); obtain ⟨ad434, e434, hx434_0⟩ := Kd.at_int HR1.out (ji9) p434 q434; obtain rfl : ad431 = ad434 := (by injection e434); replace hx434_0 := (HB.out.cell (World.block_lt_of_cell? w _ hx434_0)).trans hx434_0; replace p434 := eq_true p434; replace q434 := eq_true q434)))
                    go_ret
                    exact ⟨by first | rfl | (simp [errW_none, errW_some] <;> rfl) | (simp only [← hji9]; first | rfl | (simp [errW_none, errW_some] <;> rfl)) | (simp [*, errW_none, errW_some] <;> rfl), by repeat (first | (with_reducible first | exact HB.out | apply below_alloc | apply pw_below_drewN | apply below_drew1 | refine below_set ?_ GE430.out) | exact HB.out)⟩
                  · rw [if_neg c12] at H
                    have c12b0 : decide ((rd l1 x5_1) ≤ (rd l1 (ji9))) = false := decide_eq_false c12
                    clear c12
                    have H' := Aside0.mk H
                    clear H
                    have p431 : 0 ≤ (x5_1 : Int) := of_decide_eq_true (by first | (with_reducible assumption) | assumption)
                    have q431 : x5_1 < (l1.length : Int) := of_decide_eq_true (by first | (with_reducible assumption) | assumption)
                    obtain ⟨ad431, e431, hx431_0⟩ := Kd.at_int HR1.out x5_1 p431 q431
                    cases e431
                    replace hx431_0 := (HB.out.cell (World.block_lt_of_cell? w _ hx431_0)).trans hx431_0
                    replace p431 := eq_true p431
                    replace q431 := eq_true q431
                    have p9_ : 0 ≤ (ji9 : Int) := of_decide_eq_true (by first | (with_reducible assumption) | assumption)
                    have q9_ : ji9 < (l1.length : Int) := of_decide_eq_true (by first | (with_reducible assumption) | assumption)
                    obtain ⟨ad9_, e9_, hx9_⟩ := Kd.at_int HR1.out ji9 p9_ q9_
                    cases e9_
                    replace hx9_ := (HB.out.cell (World.block_lt_of_cell? w _ hx9_)).trans hx9_
                    replace p9_ := eq_true p9_
                    replace q9_ := eq_true q9_
                    have hw_ : IntKind.i64.wrap ((l0_1.length : Int) - 1) = wrap64 ((l0_1.length : Int) - 1) := i64_w _
                    have hcz14_0 : wr.cell? ⟨gb430, 0, none⟩ = some (.slice A0_0 l0_0.length c0_0) := (blk_cell BK430.out 0).trans rfl
                    have hcz14_1 : wr.cell? ⟨gb430, 1, none⟩ = some (.slice A0_1 l0_1.length c0_1) := (blk_cell BK430.out 1).trans rfl
                    have hfz14_0 := blk_frozen BK430.out 0
                    have hfz14_1 := blk_frozen BK430.out 1
                    go_wp2_with (first | (go_at_call 45; (with_reducible refine (talikref03_in.calls (rd l1 x5_1) 0 (wrap64 ((l0_1.length : Int) - 1)) true _ A6.out).mono ?_); rintro e w' ⟨rfl, ⟨nd, rfl⟩⟩; (try first | exact ⟨rfl, _, World.drewN_drewN _ _ _⟩ | exact ⟨rfl, _, Eq.trans (World.drewN_drewN _ _ _) (congrArg (World.drewN _) (Nat.add_assoc _ _ _))⟩); have p433 : 0 ≤ (x5_1 : Int) := of_decide_eq_true (by first | (with_reducible assumption) | assumption); have q433 : x5_1 < (l1.length : Int) := of_decide_eq_true (by first | (with_reducible assumption) | assumption); obtain ⟨ad433, e433, hx433_0⟩ := Kd.at_int HR1.out x5_1 p433 q433; obtain rfl : ad431 = ad433 := (by injection e433); replace hx433_0 := (HB.out.cell (World.block_lt_of_cell? w _ hx433_0)).trans hx433_0; replace p433 := eq_true p433; replace q433 := eq_true q433; have p434 : 0 ≤ ((ji9) : Int) := of_decide_eq_true (by first | (with_reducible assumption) | assumption); have q434 : (ji9) < (l1.length : Int) := of_decide_eq_true (by first | (with_reducible assumption) | assumption); obtain ⟨ad434, e434, hx434_0⟩ := Kd.at_int HR1.out (ji9) p434 q434; obtain rfl : ad431 = ad434 := (by injection e434); replace hx434_0 := (HB.out.cell (World.block_lt_of_cell? w _ hx434_0)).trans hx434_0; replace p434 := eq_true p434; replace q434 := eq_true q434))
                    repeat (go_quiet (first | (go_at_call 45; (with_reducible refine (talikref03_in.calls (rd l1 x5_1) 0 (wrap64 ((l0_1.length : Int) - 1)) true _ A6.out).mono ?_); rintro e w' ⟨rfl, ⟨nd, rfl⟩⟩; (try first | exact ⟨rfl, _, World.drewN_drewN _ _ _⟩ | exact ⟨rfl, _, Eq.trans (World.drewN_drewN _ _ _) (congrArg (World.drewN _) (Nat.add_assoc _ _ _))⟩); have p433 : 0 ≤ (x5_1 : Int) := of_decide_eq_true (by first | (with_reducible assumption) | assumption); have q433 : x5_1 < (l1.length : Int) := of_decide_eq_true (by first | (with_reducible assumption) | assumption); obtain ⟨ad433, e433, hx433_0⟩ := Kd.at_int HR1.out x5_1 p433 q433; obtain rfl : ad431 = ad433 := (by injection e433); replace hx433_0 := (HB.out.cell (World.block_lt_of_cell? w _ hx433_0)).trans hx433_0; replace p433 := eq_true p433; replace q433 := eq_true q433; have p434 : 0 ≤ ((ji9) : Int) := of_decide_eq_true (by first | (with_reducible assumption) | assumption); have q434 : (ji9) < (l1.length : Int) := of_decide_eq_true (by first | (with_reducible assumption) | assumption); obtain ⟨ad434, e434, hx434_0⟩ := Kd.at_int HR1.out (ji9) p434 q434; obtain rfl : ad431 = ad434 := (by injection e434); replace hx434_0 := (HB.out.cell (World.block_lt_of_cell? w _ hx434_0)).trans hx434_0; replace p434 := eq_true p434; replace q434 := eq_true q434)); try go_wp2_with (first | (go_at_call 45; (with_reducible refine (talikref03_in.calls (rd l1 x5_1) 0 (wrap64 ((l0_1.length : Int) - 1)) true _ A6.out).mono ?_); rintro e w' ⟨rfl, ⟨nd, rfl⟩⟩; (try first | exact ⟨rfl, _, World.drewN_drewN _ _ _⟩ | exact ⟨rfl, _, Eq.trans (World.drewN_drewN _ _ _) (congrArg (World.drewN _) (Nat.add_assoc _ _ _))⟩); have p433 : 0 ≤ (x5_1 : Int) := of_decide_eq_true (by first | (with_reducible assumption) | assumption); have q433 : x5_1 < (l1.length : Int) := of_decide_eq_true (by first | (with_reducible assumption) | assumption); obtain ⟨ad433, e433, hx433_0⟩ := Kd.at_int HR1.out x5_1 p433 q433; obtain rfl : ad431 = ad433 := (by injection e433); replace hx433_0 := (HB.out.cell (World.block_lt_of_cell? w _ hx433_0)).trans hx433_0; replace p433 := eq_true p433; replace q433 := eq_true q433; have p434 : 0 ≤ ((ji9) : Int) := of_decide_eq_true (by first | (with_reducible assumption) | assumption); have q434 : (ji9) < (l1.length : Int) := of_decide_eq_true (by first | (with_reducible assumption) | assumption); obtain ⟨ad434, e434, hx434_0⟩ := Kd.at_int HR1.out (ji9) p434 q434; obtain rfl : ad431 = ad434 := (by injection e434); replace hx434_0 := (HB.out.cell (World.block_lt_of_cell? w _ hx434_0)).trans hx434_0; replace p434 := eq_true p434; replace q434 := eq_true q434)))
                    go_roundg k1
                    case measure => have := HK1.out; omega
                    case rel => exact ⟨(wrap64 (x5_1 + 1)), (by first | rfl | (simp; done) | (simp [*]; done)), H', ⟨by have := HK1.out; omega⟩, ⟨by (with_reducible repeat (first | refine blk_drewN ?_ _ | refine blk_drew ?_ | refine blk_alloc ?_ _)); exact BK430.out⟩, ⟨by repeat (first | (with_reducible first | exact HB.out | apply below_alloc | apply pw_below_drewN | apply below_drew1 | refine below_set ?_ GE430.out) | exact HB.out)⟩⟩
                · rw [if_neg c11] at H
                  exact absurd H (by simp)
              · rw [if_neg c10] at H
                exact absurd H (by simp)
            · rw [if_neg c8] at H
              have c8b0 : decide (0 < x5_1) = false := decide_eq_false c8
              clear c8
              have H' := Aside0.mk H
              clear H
              have p431 : 0 ≤ (x5_1 : Int) := of_decide_eq_true (by first | (with_reducible assumption) | assumption)
              have q431 : x5_1 < (l1.length : Int) := of_decide_eq_true (by first | (with_reducible assumption) | assumption)
              obtain ⟨ad431, e431, hx431_0⟩ := Kd.at_int HR1.out x5_1 p431 q431
              cases e431
              replace hx431_0 := (HB.out.cell (World.block_lt_of_cell? w _ hx431_0)).trans hx431_0
              replace p431 := eq_true p431
              replace q431 := eq_true q431
              have hcz15_0 : wr.cell? ⟨gb430, 0, none⟩ = some (.slice A0_0 l0_0.length c0_0) := (blk_cell BK430.out 0).trans rfl
              have hcz15_1 : wr.cell? ⟨gb430, 1, none⟩ = some (.slice A0_1 l0_1.length c0_1) := (blk_cell BK430.out 1).trans rfl
              have hfz15_0 := blk_frozen BK430.out 0
              have hfz15_1 := blk_frozen BK430.out 1
              go_wp2_with (first | (go_at_call 45; (with_reducible refine (talikref03_in.calls (rd l1 x5_1) 0 (wrap64 ((l0_1.length : Int) - 1)) true _ A6.out).mono ?_); rintro e w' ⟨rfl, ⟨nd, rfl⟩⟩; (try first | exact ⟨rfl, _, World.drewN_drewN _ _ _⟩ | exact ⟨rfl, _, Eq.trans (World.drewN_drewN _ _ _) (congrArg (World.drewN _) (Nat.add_assoc _ _ _))⟩)))
              repeat (go_quiet (first | (go_at_call 45; (with_reducible refine (talikref03_in.calls (rd l1 x5_1) 0 (wrap64 ((l0_1.length : Int) - 1)) true _ A6.out).mono ?_); rintro e w' ⟨rfl, ⟨nd, rfl⟩⟩; (try first | exact ⟨rfl, _, World.drewN_drewN _ _ _⟩ | exact ⟨rfl, _, Eq.trans (World.drewN_drewN _ _ _) (congrArg (World.drewN _) (Nat.add_assoc _ _ _))⟩))); try go_wp2_with (first | (go_at_call 45; (with_reducible refine (talikref03_in.calls (rd l1 x5_1) 0 (wrap64 ((l0_1.length : Int) - 1)) true _ A6.out).mono ?_); rintro e w' ⟨rfl, ⟨nd, rfl⟩⟩; (try first | exact ⟨rfl, _, World.drewN_drewN _ _ _⟩ | exact ⟨rfl, _, Eq.trans (World.drewN_drewN _ _ _) (congrArg (World.drewN _) (Nat.add_assoc _ _ _))⟩))))
              go_roundg k1
              case measure => have := HK1.out; omega
              case rel => exact ⟨(wrap64 (x5_1 + 1)), (by first | rfl | (simp; done) | (simp [*]; done)), H', ⟨by have := HK1.out; omega⟩, ⟨by (with_reducible repeat (first | refine blk_drewN ?_ _ | refine blk_drew ?_ | refine blk_alloc ?_ _)); exact BK430.out⟩, ⟨by repeat (first | (with_reducible first | exact HB.out | apply below_alloc | apply pw_below_drewN | apply below_drew1 | refine below_set ?_ GE430.out) | exact HB.out)⟩⟩
          · replace c7 := Bool.eq_false_iff.mpr c7
            subst c7
            have H1 : (some false) = some r := by rw [if_neg (show ¬ (false = true) by decide)] at H; exact H
            clear H
            have H := H1
            clear H1
            obtain rfl := Option.some.inj H
            have p431 : 0 ≤ (x5_1 : Int) := of_decide_eq_true (by first | (with_reducible assumption) | assumption)
            have q431 : x5_1 < (l1.length : Int) := of_decide_eq_true (by first | (with_reducible assumption) | assumption)
            obtain ⟨ad431, e431, hx431_0⟩ := Kd.at_int HR1.out x5_1 p431 q431
            cases e431
            replace hx431_0 := (HB.out.cell (World.block_lt_of_cell? w _ hx431_0)).trans hx431_0
            replace p431 := eq_true p431
            replace q431 := eq_true q431
            have hcz16_0 : wr.cell? ⟨gb430, 0, none⟩ = some (.slice A0_0 l0_0.length c0_0) := (blk_cell BK430.out 0).trans rfl
            have hcz16_1 : wr.cell? ⟨gb430, 1, none⟩ = some (.slice A0_1 l0_1.length c0_1) := (blk_cell BK430.out 1).trans rfl
            have hfz16_0 := blk_frozen BK430.out 0
            have hfz16_1 := blk_frozen BK430.out 1
            go_wp2_with (first | (go_at_call 45; (with_reducible refine (talikref03_in.calls (rd l1 x5_1) 0 (wrap64 ((l0_1.length : Int) - 1)) false _ A6.out).mono ?_); rintro e w' ⟨rfl, ⟨nd, rfl⟩⟩; (try first | exact ⟨rfl, _, World.drewN_drewN _ _ _⟩ | exact ⟨rfl, _, Eq.trans (World.drewN_drewN _ _ _) (congrArg (World.drewN _) (Nat.add_assoc _ _ _))⟩)))
            repeat (go_quiet (first | (go_at_call 45; (with_reducible refine (talikref03_in.calls (rd l1 x5_1) 0 (wrap64 ((l0_1.length : Int) - 1)) false _ A6.out).mono ?_); rintro e w' ⟨rfl, ⟨nd, rfl⟩⟩; (try first | exact ⟨rfl, _, World.drewN_drewN _ _ _⟩ | exact ⟨rfl, _, Eq.trans (World.drewN_drewN _ _ _) (congrArg (World.drewN _) (Nat.add_assoc _ _ _))⟩))); try go_wp2_with (first | (go_at_call 45; (with_reducible refine (talikref03_in.calls (rd l1 x5_1) 0 (wrap64 ((l0_1.length : Int) - 1)) false _ A6.out).mono ?_); rintro e w' ⟨rfl, ⟨nd, rfl⟩⟩; (try first | exact ⟨rfl, _, World.drewN_drewN _ _ _⟩ | exact ⟨rfl, _, Eq.trans (World.drewN_drewN _ _ _) (congrArg (World.drewN _) (Nat.add_assoc _ _ _))⟩))))
            go_ret
            exact ⟨by first | rfl | (simp [errW_none, errW_some] <;> rfl) | (simp [*, errW_none, errW_some] <;> rfl), by repeat (first | (with_reducible first | exact HB.out | apply below_alloc | apply pw_below_drewN | apply below_drew1 | refine below_set ?_ GE430.out) | exact HB.out)⟩
        · rw [if_neg c5] at H
          exact absurd H (by simp)
      · rw [if_neg c4] at H
        have c4b0 : decide (x5_1 < (l1.length : Int)) = false := decide_eq_false c4
        clear c4
        obtain rfl := Option.some.inj H
        go_wp2
        repeat (go_quiet (fail); try go_wp2)
        go_ret
        exact ⟨by first | rfl | (simp [errW_none, errW_some] <;> rfl) | (simp [*, errW_none, errW_some] <;> rfl), by repeat (first | (with_reducible first | exact HB.out | apply below_alloc | apply pw_below_drewN | apply below_drew1 | refine below_set ?_ GE430.out) | exact HB.out)⟩
def taliklaw03_asked.f (k : Nat) (l0_0 : List (S60)) (l0_1 : List (S64)) (l1 : List Int) : Option (Bool) := (talikref03_Town.f k l0_0 l0_1).bind fun t436 => (if t436 = true then ((talikref03_Coolers.f k l0_0 l0_1 l1).bind fun t437 => (some t437)) else (some false))
set_option maxHeartbeats 8000000 in
set_option maxRecDepth 100000 in
theorem taliklaw03_asked.calls (k : Nat) (A0_0 : Option Addr) (c0_0 : Nat) (l0_0 : List (S60)) (A0_1 : Option Addr) (c0_1 : Nat) (l0_1 : List (S64)) (A1 : Option Addr) (c1 : Nat) (l1 : List Int) (r : Bool) (w : World) (hr0_0 : Kd.C k60 w A0_0 l0_0.length l0_0) (hc0_0 : l0_0.length ≤ c0_0) (hr0_1 : Kd.C k64 w A0_1 l0_1.length l0_1) (hc0_1 : l0_1.length ≤ c0_1) (hr1 : Kd.C (Kd.int .i64) w A1 l1.length l1) (hc1 : l1.length ≤ c1) (h : taliklaw03_asked.f k l0_0 l0_1 l1 = some r) :
    Calls Try.prog 22 #[.agg #[.slice A0_0 l0_0.length c0_0, .slice A0_1 l0_1.length c0_1], .slice A1 l1.length c1] w fun e w' => e = .returned (.bool r) ∧ Below w.heap.size w w' := by
  have hu25 := Try.underlying25
  have HR0_0 := Aside0.mk hr0_0
  have HC0_0 := Aside0.mk hc0_0
  clear hr0_0 hc0_0
  have HR0_1 := Aside0.mk hr0_1
  have HC0_1 := Aside0.mk hc0_1
  clear hr0_1 hc0_1
  have HR1 := Aside0.mk hr1
  have HC1 := Aside0.mk hc1
  clear hr1 hc1
  have HB := Aside0.mk (Below.refl w.heap.size w)
  have H : ((talikref03_Town.f k l0_0 l0_1).bind fun t436 => (if t436 = true then ((talikref03_Coolers.f k l0_0 l0_1 l1).bind fun t437 => (some t437)) else (some false))) = some r := h
  clear h
  replace H := Option.bind_eq_some_iff.mp H
  obtain ⟨t436, A30, H⟩ := H
  replace H : (if t436 = true then ((talikref03_Coolers.f k l0_0 l0_1 l1).bind fun t437 => (some t437)) else (some false)) = some r := H
  have A3 := Aside0.mk A30
  clear A30
  by_cases c4 : t436 = true
  · subst c4
    have H1 : ((talikref03_Coolers.f k l0_0 l0_1 l1).bind fun t437 => (some t437)) = some r := by rw [if_pos rfl] at H; exact H
    clear H
    have H := H1
    clear H1
    replace H := Option.bind_eq_some_iff.mp H
    obtain ⟨t437, A50, H⟩ := H
    replace H : (some t437) = some r := H
    have A5 := Aside0.mk A50
    clear A50
    obtain rfl := Option.some.inj H
    go_enter Try.func22, Try.ntmps22
    go_wp2_with (first | ((with_reducible refine gate_dst (N := 2) rfl ?_); refine box_event ?hg (N := 2) ?hd (cs := #[.slice A0_0 l0_0.length c0_0, .slice A0_1 l0_1.length c0_1]) (t := 25) ?hr ?_; (case hd => rfl); (case hg => rfl); (case hr => first | (go_simp; done) | (go_simp; rfl)); intro gb435 hg w6 hbox hb; have n0_ := Aside0.mk (below_step (by repeat (first | (with_reducible first | exact HB.out | apply below_alloc | apply pw_below_drewN | apply below_drew1) | exact HB.out)) hb); have n1_ := Aside0.mk (hbox); have n2_ := Aside0.mk ((by rw [hg]; exact (below_size (by repeat (first | (with_reducible first | exact HB.out | apply below_alloc | apply pw_below_drewN | apply below_drew1) | exact HB.out))) : w.heap.size ≤ gb435)); have n3_ := Aside0.mk ((by rw [hg]; exact (below_size (by repeat (first | (with_reducible first | exact HB.out | apply below_alloc | apply pw_below_drewN | apply below_drew1) | exact HB.out))) : w.heap.size ≤ gb435)); clear HB; have HB := n0_; have BK435 := n1_; have GW435 := n2_; have GE435 := n3_; clear n0_ n1_ n2_ n3_; clear hb hbox hg; have hcz7_0 : w6.cell? ⟨gb435, 0, none⟩ = some (.slice A0_0 l0_0.length c0_0) := (blk_cell BK435.out 0).trans rfl; have hcz7_1 : w6.cell? ⟨gb435, 1, none⟩ = some (.slice A0_1 l0_1.length c0_1) := (blk_cell BK435.out 1).trans rfl; have hfz7_0 := blk_frozen BK435.out 0; have hfz7_1 := blk_frozen BK435.out 1) | ((with_reducible refine gate_callee (f := 13) rfl ?_); refine goesL_ (some 6) rfl rfl Try.func13 (by kernel_rfl) rfl #[.agg #[.slice A0_0 l0_0.length c0_0, .slice A0_1 l0_1.length c0_1]] rfl (by (try simp only [List.map_toArray, List.map_cons, List.map_nil]); first | done | rfl | (simp only [List.length_drop, List.length_take]; rfl)) ?_; (with_reducible refine (talikref03_Town.calls k _ _ l0_0 _ _ l0_1 true _ ?side1 ?side2 ?side3 ?side4 A3.out).mono ?_); (case side1 => repeat (first | exact (Kd.C_below HR0_0.out HB.out) | (with_reducible refine Kd.C_alloc ?_ _) | (with_reducible refine Kd.C_drewN ?_ _) | (with_reducible refine Kd.C_drew ?_))); (case side2 => exact HC0_0.out); (case side3 => repeat (first | exact (Kd.C_below HR0_1.out HB.out) | (with_reducible refine Kd.C_alloc ?_ _) | (with_reducible refine Kd.C_drewN ?_ _) | (with_reducible refine Kd.C_drew ?_))); (case side4 => exact HC0_1.out); rintro e w8 ⟨rfl, hb⟩; refine ⟨_, rfl, ?_⟩; have n0_ := Aside0.mk (blk_below (g := gb435) (o := .cells #[.slice A0_0 l0_0.length c0_0, .slice A0_1 l0_1.length c0_1] 25 (0, 0)) (by (with_reducible repeat (first | refine blk_drewN ?_ _ | refine blk_drew ?_ | refine blk_alloc ?_ _)); exact BK435.out) hb); have n1_ := Aside0.mk (below_step (by repeat (first | (with_reducible first | exact HB.out | apply below_alloc | apply pw_below_drewN | apply below_drew1 | refine below_set ?_ GE435.out) | exact HB.out)) hb); clear BK435; clear HB; have BK435 := n0_; have HB := n1_; clear n0_ n1_; (try clear hb); (try clear hb2); (try clear hk); (try clear hi); have hcz9_0 : w8.cell? ⟨gb435, 0, none⟩ = some (.slice A0_0 l0_0.length c0_0) := (blk_cell BK435.out 0).trans rfl; have hcz9_1 : w8.cell? ⟨gb435, 1, none⟩ = some (.slice A0_1 l0_1.length c0_1) := (blk_cell BK435.out 1).trans rfl; have hfz9_0 := blk_frozen BK435.out 0; have hfz9_1 := blk_frozen BK435.out 1) | (go_at_call 24; (with_reducible refine (talikref03_Coolers.calls k _ _ l0_0 _ _ l0_1 _ _ l1 t437 _ ?side1 ?side2 ?side3 ?side4 ?side5 ?side6 A5.out).mono ?_); (case side1 => repeat (first | exact (Kd.C_below HR0_0.out HB.out) | (with_reducible refine Kd.C_alloc ?_ _) | (with_reducible refine Kd.C_drewN ?_ _) | (with_reducible refine Kd.C_drew ?_))); (case side2 => exact HC0_0.out); (case side3 => repeat (first | exact (Kd.C_below HR0_1.out HB.out) | (with_reducible refine Kd.C_alloc ?_ _) | (with_reducible refine Kd.C_drewN ?_ _) | (with_reducible refine Kd.C_drew ?_))); (case side4 => exact HC0_1.out); (case side5 => repeat (first | exact (Kd.C_below HR1.out HB.out) | (with_reducible refine Kd.C_alloc ?_ _) | (with_reducible refine Kd.C_drewN ?_ _) | (with_reducible refine Kd.C_drew ?_))); (case side6 => exact HC1.out); rintro e w10 ⟨rfl, hb⟩; have n0_ := Aside0.mk (blk_below (g := gb435) (o := .cells #[.slice A0_0 l0_0.length c0_0, .slice A0_1 l0_1.length c0_1] 25 (0, 0)) (by (with_reducible repeat (first | refine blk_drewN ?_ _ | refine blk_drew ?_ | refine blk_alloc ?_ _)); exact BK435.out) hb); have n1_ := Aside0.mk (below_step (by repeat (first | (with_reducible first | exact HB.out | apply below_alloc | apply pw_below_drewN | apply below_drew1 | refine below_set ?_ GE435.out) | exact HB.out)) hb); clear BK435; clear HB; have BK435 := n0_; have HB := n1_; clear n0_ n1_; (try clear hb); (try clear hb2); (try clear hk); (try clear hi)))
    go_ret
    exact ⟨by first | rfl | (simp [errW_none, errW_some] <;> rfl) | (simp [*, errW_none, errW_some] <;> rfl), by repeat (first | (with_reducible first | exact HB.out | apply below_alloc | apply pw_below_drewN | apply below_drew1 | refine below_set ?_ GE435.out) | exact HB.out)⟩
  · replace c4 := Bool.eq_false_iff.mpr c4
    subst c4
    have H1 : (some false) = some r := by rw [if_neg (show ¬ (false = true) by decide)] at H; exact H
    clear H
    have H := H1
    clear H1
    obtain rfl := Option.some.inj H
    go_enter Try.func22, Try.ntmps22
    go_wp2_with (first | ((with_reducible refine gate_dst (N := 2) rfl ?_); refine box_event ?hg (N := 2) ?hd (cs := #[.slice A0_0 l0_0.length c0_0, .slice A0_1 l0_1.length c0_1]) (t := 25) ?hr ?_; (case hd => rfl); (case hg => rfl); (case hr => first | (go_simp; done) | (go_simp; rfl)); intro gb435 hg w11 hbox hb; have n0_ := Aside0.mk (below_step (by repeat (first | (with_reducible first | exact HB.out | apply below_alloc | apply pw_below_drewN | apply below_drew1) | exact HB.out)) hb); have n1_ := Aside0.mk (hbox); have n2_ := Aside0.mk ((by rw [hg]; exact (below_size (by repeat (first | (with_reducible first | exact HB.out | apply below_alloc | apply pw_below_drewN | apply below_drew1) | exact HB.out))) : w.heap.size ≤ gb435)); have n3_ := Aside0.mk ((by rw [hg]; exact (below_size (by repeat (first | (with_reducible first | exact HB.out | apply below_alloc | apply pw_below_drewN | apply below_drew1) | exact HB.out))) : w.heap.size ≤ gb435)); clear HB; have HB := n0_; have BK435 := n1_; have GW435 := n2_; have GE435 := n3_; clear n0_ n1_ n2_ n3_; clear hb hbox hg; have hcz12_0 : w11.cell? ⟨gb435, 0, none⟩ = some (.slice A0_0 l0_0.length c0_0) := (blk_cell BK435.out 0).trans rfl; have hcz12_1 : w11.cell? ⟨gb435, 1, none⟩ = some (.slice A0_1 l0_1.length c0_1) := (blk_cell BK435.out 1).trans rfl; have hfz12_0 := blk_frozen BK435.out 0; have hfz12_1 := blk_frozen BK435.out 1) | ((with_reducible refine gate_callee (f := 13) rfl ?_); refine goesL_ (some 6) rfl rfl Try.func13 (by kernel_rfl) rfl #[.agg #[.slice A0_0 l0_0.length c0_0, .slice A0_1 l0_1.length c0_1]] rfl (by (try simp only [List.map_toArray, List.map_cons, List.map_nil]); first | done | rfl | (simp only [List.length_drop, List.length_take]; rfl)) ?_; (with_reducible refine (talikref03_Town.calls k _ _ l0_0 _ _ l0_1 false _ ?side1 ?side2 ?side3 ?side4 A3.out).mono ?_); (case side1 => repeat (first | exact (Kd.C_below HR0_0.out HB.out) | (with_reducible refine Kd.C_alloc ?_ _) | (with_reducible refine Kd.C_drewN ?_ _) | (with_reducible refine Kd.C_drew ?_))); (case side2 => exact HC0_0.out); (case side3 => repeat (first | exact (Kd.C_below HR0_1.out HB.out) | (with_reducible refine Kd.C_alloc ?_ _) | (with_reducible refine Kd.C_drewN ?_ _) | (with_reducible refine Kd.C_drew ?_))); (case side4 => exact HC0_1.out); rintro e w13 ⟨rfl, hb⟩; refine ⟨_, rfl, ?_⟩; have n0_ := Aside0.mk (blk_below (g := gb435) (o := .cells #[.slice A0_0 l0_0.length c0_0, .slice A0_1 l0_1.length c0_1] 25 (0, 0)) (by (with_reducible repeat (first | refine blk_drewN ?_ _ | refine blk_drew ?_ | refine blk_alloc ?_ _)); exact BK435.out) hb); have n1_ := Aside0.mk (below_step (by repeat (first | (with_reducible first | exact HB.out | apply below_alloc | apply pw_below_drewN | apply below_drew1 | refine below_set ?_ GE435.out) | exact HB.out)) hb); clear BK435; clear HB; have BK435 := n0_; have HB := n1_; clear n0_ n1_; (try clear hb); (try clear hb2); (try clear hk); (try clear hi)))
    go_ret
    exact ⟨by first | rfl | (simp [errW_none, errW_some] <;> rfl) | (simp [*, errW_none, errW_some] <;> rfl), by repeat (first | (with_reducible first | exact HB.out | apply below_alloc | apply pw_below_drewN | apply below_drew1 | refine below_set ?_ GE435.out) | exact HB.out)⟩
end Go.Proofs.Ytmkdllaagaimlaa.C
end
section
namespace Go.Proofs.Ytmkdllaagaimlaa.C
open Go.RowKit Go.Proofs.YtmkdllaagaimlaaW.PrintWords Go.Proofs.YtmkdllaagaimlaaW.PrintLast Go.Proofs.YtmkdllaagaimlaaW.PrintMore
set_option linter.unusedVariables false
set_option linter.unusedSimpArgs false
theorem w1 {i : Nat} (h : i < 9223372036854775807) : wrap64 ((i : Int) + 1) = ((i + 1 : Nat) : Int) := by rw [wrap64_of _ (by omega) (by omega)]; omega
theorem rd_at {l : List Int} {i : Nat} (h : i < l.length) : rd l (i : Int) = l[i] := by simp [rd, List.getD_eq_getElem?_getD, List.getElem?_eq_getElem h]
theorem in_f (x a b : Int) : talikref03_in.f x a b = some (decide (a ≤ x) && decide (x ≤ b)) := by
  unfold talikref03_in.f
  by_cases h : x ≥ a
  · rw [if_pos h]; simp [show a ≤ x from h]
  · rw [if_neg h]; simp [show ¬ a ≤ x from h]
theorem Cold_f (a b : Int) : talikref03_Cold.f a b = some (spanB ⟨a, b⟩) := by
  unfold talikref03_Cold.f spanB
  by_cases h : a ≥ 0
  · rw [if_pos h]
    by_cases h2 : a ≤ b
    · rw [if_pos h2]; simp [show (0 : Int) ≤ a from h, h2]
    · rw [if_neg h2]; simp [h2]
  · rw [if_neg h]; simp [show ¬ (0 : Int) ≤ a from h]
theorem drop_at {l : List Int} {i : Nat} (h : i < l.length) : ∃ x, rd l (i : Int) = x ∧ l.drop i = x :: l.drop (i + 1) := ⟨_, rfl, rd_drop h⟩
def shortB (H : List S60) (S : List S64) : Bool := (S.take 15).all (fun s => decide (s.f2.length ≤ 10)) && (decide (H.length ≤ 10) && decide (S.length ≤ 15))
theorem rd64_at {S : List S64} {i : Nat} (h : i < S.length) : rd_T64 S (i : Int) = S[i] := by simp [rd_T64, List.getD_eq_getElem?_getD, List.getElem?_eq_getElem h]
theorem rd60_at {S : List S60} {i : Nat} (h : i < S.length) : rd_T60 S (i : Int) = S[i] := by simp [rd_T60, List.getD_eq_getElem?_getD, List.getElem?_eq_getElem h]
theorem rd58_at {S : List S58} {i : Nat} (h : i < S.length) : rd_T58 S (i : Int) = S[i] := by simp [rd_T58, List.getD_eq_getElem?_getD, List.getElem?_eq_getElem h]
theorem short_l0 (H : List S60) (S : List S64) (hS : S.length ≤ 9223372036854775807) : ∀ d i : Nat, i + d = 15 → (i ≤ S.length) → Ev (fun k => taliklaw03_short.l0 k i H S) (((S.drop i).take d).all (fun s => decide (s.f2.length ≤ 10)) && (decide (H.length ≤ 10) && decide (S.length ≤ 15))) := by
  have fin : Ev (fun (_ : Nat) => if (H.length : Int) ≤ 10 then some (decide ((S.length : Int) ≤ 15)) else some false) (decide (H.length ≤ 10) && decide (S.length ≤ 15)) := by
    refine ⟨0, fun _ _ => ?_⟩
    by_cases h : H.length ≤ 10
    · rw [if_pos (by omega)]
      simp only [h, decide_true, Bool.true_and, Option.some.injEq]
      rw [decide_eq_decide]; omega
    · rw [if_neg (by omega)]; simp [h]
  intro d
  induction d with
  | zero =>
    intro i hi hiS
    refine Ev.step (f := fun k => taliklaw03_short.j1 k i false H S) (fun k => ?_) (Ev.step (f := fun _ => if (H.length : Int) ≤ 10 then some (decide ((S.length : Int) ≤ 15)) else some false) (fun k => ?_) (by simpa using fin))
    · simp only [taliklaw03_short.l0]
      by_cases h : (i : Int) < (S.length : Int)
      · rw [if_pos h, decide_eq_false (by omega)]
      · rw [if_neg h]
    · simp only [taliklaw03_short.j1]; rw [if_neg (by simp)]
  | succ d ih =>
    intro i hi hiS
    by_cases hlt : i < S.length
    · have hd : S.drop i = S[i] :: S.drop (i + 1) := List.drop_eq_getElem_cons hlt
      obtain ⟨x, hx⟩ : ∃ x, S[i] = x := ⟨_, rfl⟩
      rw [hx] at hd
      rw [hd, List.take_succ_cons, List.all_cons]
      by_cases hg : x.f2.length ≤ 10
      · refine Ev.step (f := fun k => taliklaw03_short.j1 k i true H S) (fun k => ?_) (Ev.step (f := fun k => taliklaw03_short.l0 k ((i + 1 : Nat) : Int) H S) (fun k => ?_) ?_)
        · simp only [taliklaw03_short.l0]; rw [if_pos (by omega), decide_eq_true (by omega)]
        · simp only [taliklaw03_short.j1]; rw [if_pos trivial, if_pos (by omega), if_pos (by omega), rd64_at hlt, hx, if_neg (by omega), w1 (by omega)]
        · simp only [hg, decide_true, Bool.true_and]
          exact ih (i + 1) (by omega) (by omega)
      · refine Ev.step (f := fun k => taliklaw03_short.j1 k i true H S) (fun k => ?_) (Ev.step (f := fun _ => some false) (fun k => ?_) ?_)
        · simp only [taliklaw03_short.l0]; rw [if_pos (by omega), decide_eq_true (by omega)]
        · simp only [taliklaw03_short.j1]; rw [if_pos trivial, if_pos (by omega), if_pos (by omega), rd64_at hlt, hx, if_pos (by omega)]
        · simp only [hg, decide_false, Bool.false_and]; exact Ev.now _
    · refine Ev.step (f := fun k => taliklaw03_short.j1 k i false H S) (fun k => ?_) (Ev.step (f := fun _ => if (H.length : Int) ≤ 10 then some (decide ((S.length : Int) ≤ 15)) else some false) (fun k => ?_) (by rw [List.drop_eq_nil_of_le (by omega)]; simpa using fin))
      · simp only [taliklaw03_short.l0]; rw [if_neg (by omega)]
      · simp only [taliklaw03_short.j1]; rw [if_neg (by simp)]
theorem short_ev (H : List S60) (S : List S64) (hS : S.length ≤ 9223372036854775807) : Ev (fun k => taliklaw03_short.f k H S) (shortB H S) := by
  have := short_l0 H S hS 15 0 rfl (Nat.zero_le _)
  simpa [taliklaw03_short.f, shortB] using this
theorem all_bool (b c : Bool) (g : Nat → Option Bool) (h : Ev g c) : Ev (fun k => if b = true then g k else some false) (b && c) := by
  cases b with
  | true => simpa using h
  | false => exact ⟨0, fun _ _ => by simp⟩
theorem town_l2 (H : List S60) (S : List S64) (i : Nat) (a b : Int) (G : List S58) (hG : G.length ≤ 9223372036854775807) (r : Bool) (hr : Ev (fun k => talikref03_Town.l1 k (wrap64 ((i : Int) + 1)) H S) r) : ∀ d j : Nat, j + d = G.length → Ev (fun k => talikref03_Town.l2 k i j H S a b G) ((G.drop j).all spanB && r) := by
  intro d
  induction d with
  | zero =>
    intro j hj
    refine Ev.step (f := fun k => talikref03_Town.l1 k (wrap64 ((i : Int) + 1)) H S) (fun k => ?_) ?_
    · simp only [talikref03_Town.l2]; rw [if_neg (by omega)]
    · rw [List.drop_eq_nil_of_le (by omega)]; simpa using hr
  | succ d ih =>
    intro j hj
    have hlt : j < G.length := by omega
    have hd : G.drop j = G[j] :: G.drop (j + 1) := List.drop_eq_getElem_cons hlt
    obtain ⟨x, hx⟩ : ∃ x, G[j] = x := ⟨_, rfl⟩
    rw [hx] at hd
    rw [hd, List.all_cons, Bool.and_assoc]
    refine Ev.step (f := fun k => if spanB x = true then talikref03_Town.l2 k i ((j + 1 : Nat) : Int) H S a b G else some false) (fun k => ?_) (all_bool _ _ _ (ih (j + 1) (by omega)))
    simp only [talikref03_Town.l2]; rw [if_pos (by omega), if_pos (by omega), rd58_at hlt, hx, Cold_f, w1 (by omega)]; rfl
theorem town_l1 (H : List S60) (S : List S64) (hS : S.length ≤ 9223372036854775807) (hG : ∀ s ∈ S, s.f2.length ≤ 9223372036854775807) : ∀ d i : Nat, i + d = S.length → Ev (fun k => talikref03_Town.l1 k i H S) ((S.drop i).all (siteB H.length) && ((decide (1 ≤ H.length) && decide (H.length ≤ 6)) && (decide (1 ≤ S.length) && decide (S.length ≤ 10)))) := by
  intro d
  induction d with
  | zero =>
    intro i hi
    refine Ev.step (f := fun _ => some ((decide (1 ≤ H.length) && decide (H.length ≤ 6)) && (decide (1 ≤ S.length) && decide (S.length ≤ 10)))) (fun k => ?_) ?_
    · simp only [talikref03_Town.l1]; rw [if_neg (by omega), in_f, in_f]
      simp only [Option.bind_some]
      have e1 : (decide ((1 : Int) ≤ (H.length : Int)) && decide ((H.length : Int) ≤ 6)) = (decide (1 ≤ H.length) && decide (H.length ≤ 6)) := by rw [Bool.eq_iff_iff]; simp; omega
      have e2 : (decide ((1 : Int) ≤ (S.length : Int)) && decide ((S.length : Int) ≤ 10)) = (decide (1 ≤ S.length) && decide (S.length ≤ 10)) := by rw [Bool.eq_iff_iff]; simp; omega
      rw [e1, e2]
      cases (decide (1 ≤ H.length) && decide (H.length ≤ 6)) <;> simp
    · rw [List.drop_eq_nil_of_le (by omega)]; simp only [List.all_nil, Bool.true_and]; exact Ev.now _
  | succ d ih =>
    intro i hi
    have hlt : i < S.length := by omega
    have hd : S.drop i = S[i] :: S.drop (i + 1) := List.drop_eq_getElem_cons hlt
    have hxm : S[i] ∈ S := List.getElem_mem hlt
    obtain ⟨x, hx⟩ : ∃ x, S[i] = x := ⟨_, rfl⟩
    rw [hx] at hd hxm
    rw [hd, List.all_cons]
    have h2 := town_l2 H S i x.f0 x.f1 x.f2 (hG x hxm) _ (by rw [w1 (by omega)]; exact ih (i + 1) (by omega)) x.f2.length 0 (by omega)
    have hj : ∀ b : Bool, Ev (fun k => talikref03_Town.j2 k i b H S x.f0 x.f1 x.f2) (!b && (x.f2.all spanB && ((S.drop (i + 1)).all (siteB H.length) && ((decide (1 ≤ H.length) && decide (H.length ≤ 6)) && (decide (1 ≤ S.length) && decide (S.length ≤ 10)))))) := by
      intro b
      cases b with
      | true => exact Ev.step (f := fun _ => some false) (fun k => by simp [talikref03_Town.j2]) (Ev.now _)
      | false => exact Ev.step (f := fun k => talikref03_Town.l2 k i 0 H S x.f0 x.f1 x.f2) (fun k => by simp [talikref03_Town.j2]) (by simpa using h2)
    obtain ⟨b1, hb1⟩ : ∃ b, (decide (0 ≤ x.f0) && decide (x.f0 ≤ 1000000)) = b := ⟨_, rfl⟩
    obtain ⟨b2, hb2⟩ : ∃ b, (decide (1 ≤ x.f1) && decide (x.f1 ≤ 100)) = b := ⟨_, rfl⟩
    have e3 : ((x.f2.length : Int) != (H.length : Int)) = !decide (x.f2.length = H.length) := by
      rw [Bool.eq_iff_iff]; simp; omega
    have es : (siteB H.length x && ((S.drop (i + 1)).all (siteB H.length))) = (b1 && (b2 && (decide (x.f2.length = H.length) && (x.f2.all spanB && (S.drop (i + 1)).all (siteB H.length))))) := by
      unfold siteB
      rw [hb1, hb2]
      simp only [Bool.and_assoc]
    rw [es]
    simp only [Bool.and_assoc] at hj ⊢
    refine Ev.step (f := fun k => if b1 = true then (if b2 = true then talikref03_Town.j2 k i (!decide (x.f2.length = H.length)) H S x.f0 x.f1 x.f2 else talikref03_Town.j2 k i true H S x.f0 x.f1 x.f2) else talikref03_Town.j2 k i true H S x.f0 x.f1 x.f2) (fun k => ?_) ?_
    · simp only [talikref03_Town.l1]; rw [if_pos (by omega), if_pos (by omega), rd64_at hlt, hx, in_f, in_f, hb1, hb2, e3]
      cases b1 <;> cases b2 <;> simp
    · cases b1 with
      | false => simpa using hj true
      | true =>
        cases b2 with
        | false => simpa using hj true
        | true => simpa using hj (!decide (x.f2.length = H.length))
theorem town_l0 (H : List S60) (S : List S64) (hH : H.length ≤ 9223372036854775807) (hS : S.length ≤ 9223372036854775807) (hG : ∀ s ∈ S, s.f2.length ≤ 9223372036854775807) : ∀ d i : Nat, i + d = H.length → Ev (fun k => talikref03_Town.l0 k i H S) ((H.drop i).all houseB && (S.all (siteB H.length) && ((decide (1 ≤ H.length) && decide (H.length ≤ 6)) && (decide (1 ≤ S.length) && decide (S.length ≤ 10))))) := by
  intro d
  induction d with
  | zero =>
    intro i hi
    refine Ev.step (f := fun k => talikref03_Town.l1 k 0 H S) (fun k => ?_) ?_
    · simp only [talikref03_Town.l0]; rw [if_neg (by omega)]
    · rw [List.drop_eq_nil_of_le (by omega)]; simpa using town_l1 H S hS hG S.length 0 (by omega)
  | succ d ih =>
    intro i hi
    have hlt : i < H.length := by omega
    have hd : H.drop i = H[i] :: H.drop (i + 1) := List.drop_eq_getElem_cons hlt
    obtain ⟨x, hx⟩ : ∃ x, H[i] = x := ⟨_, rfl⟩
    rw [hx] at hd
    rw [hd, List.all_cons, Bool.and_assoc]
    refine Ev.step (f := fun k => if houseB x = true then talikref03_Town.l0 k ((i + 1 : Nat) : Int) H S else some false) (fun k => ?_) (all_bool _ _ _ (ih (i + 1) (by omega)))
    simp only [talikref03_Town.l0]; rw [if_pos (by omega), if_pos (by omega), rd60_at hlt, hx, Cold_f, in_f, w1 (by omega)]
    unfold houseB
    simp only [Option.bind_some, Bool.and_assoc]
    cases spanB x.f0 <;> simp
theorem Town_ev (H : List S60) (S : List S64) (hH : H.length ≤ 9223372036854775807) (hS : S.length ≤ 9223372036854775807) (hG : ∀ s ∈ S, s.f2.length ≤ 9223372036854775807) : Ev (fun k => talikref03_Town.f k H S) (validB H S) := by
  have h := town_l0 H S hH hS hG H.length 0 (by omega)
  have e : validB H S = (H.all houseB && (S.all (siteB H.length) && ((decide (1 ≤ H.length) && decide (H.length ≤ 6)) && (decide (1 ≤ S.length) && decide (S.length ≤ 10))))) := by
    unfold validB
    rw [Bool.eq_iff_iff]
    simp only [Bool.and_eq_true]
    constructor
    · rintro ⟨⟨⟨h1, h2⟩, h3⟩, h4⟩; exact ⟨h3, h4, h1, h2⟩
    · rintro ⟨h3, h4, h1, h2⟩; exact ⟨⟨⟨h1, h2⟩, h3⟩, h4⟩
  rw [e]
  simpa [talikref03_Town.f] using h
theorem coolers_l0 (H : List S60) (S : List S64) (l : List Int) (hS : S.length ≤ 9223372036854775807) (hl : l.length ≤ 9223372036854775807) : ∀ (d i : Nat), i + d = l.length → ∀ p : Int, (i = 0 → p = -1) → (i ≠ 0 → rd l ((i : Int) - 1) = p ∧ 0 ≤ p) → Ev (fun k => talikref03_Coolers.l0 k l i H S) (incr S.length p (l.drop i)) := by
  intro d
  induction d with
  | zero =>
    intro i hi p _ _
    refine Ev.step (f := fun _ => some true) (fun k => ?_) ?_
    · simp only [talikref03_Coolers.l0]; rw [if_neg (by omega)]
    · rw [List.drop_eq_nil_of_le (by omega)]; exact Ev.now _
  | succ d ih =>
    intro i hi p hp0 hp1
    have hlt : i < l.length := by omega
    obtain ⟨x, hx, hd⟩ := drop_at hlt
    rw [hd]
    have hw : wrap64 ((S.length : Int) - 1) = (S.length : Int) - 1 := wrap64_of _ (by omega) (by omega)
    have hwi : wrap64 ((i : Int) - 1) = (i : Int) - 1 := wrap64_of _ (by omega) (by omega)
    by_cases hin : 0 ≤ x ∧ x < (S.length : Int)
    · have e1 : (decide (0 ≤ x) && decide (x ≤ (S.length : Int) - 1)) = true := by simp; omega
      have e2 : (decide (0 ≤ x) && decide (x < (S.length : Int))) = true := by simp; omega
      have hnx := ih (i + 1) (by omega) x (by omega) (fun _ => ⟨by rw [show ((i + 1 : Nat) : Int) - 1 = (i : Int) by omega]; exact hx, hin.1⟩)
      by_cases hpx : p < x
      · refine Ev.step (f := fun k => talikref03_Coolers.l0 k l ((i + 1 : Nat) : Int) H S) (fun k => ?_) ?_
        · simp only [talikref03_Coolers.l0]; rw [if_pos (by omega), if_pos (by omega), hx, hw, in_f, e1, w1 (by omega)]
          simp only [Option.bind_some, if_true]
          by_cases hi0 : i = 0
          · rw [if_neg (by omega)]
          · rw [if_pos (by omega), hwi, if_pos (by omega), if_pos (by omega), (hp1 hi0).1, if_neg (by omega)]
        · have e : incr S.length p (x :: l.drop (i + 1)) = incr S.length x (l.drop (i + 1)) := by simp only [incr, e2, hpx, decide_true, Bool.true_and]
          rw [e]; exact hnx
      · have hi0 : i ≠ 0 := fun e => hpx (by rw [hp0 e]; omega)
        refine Ev.step (f := fun _ => some false) (fun k => ?_) ?_
        · simp only [talikref03_Coolers.l0]; rw [if_pos (by omega), if_pos (by omega), hx, hw, in_f, e1]
          simp only [Option.bind_some, if_true]
          rw [if_pos (by omega), hwi, if_pos (by omega), if_pos (by omega), (hp1 hi0).1, if_pos (by omega)]
        · simp only [incr, hpx, decide_false, Bool.false_and]; exact Ev.now _
    · have e1 : (decide (0 ≤ x) && decide (x ≤ (S.length : Int) - 1)) = false := by simp; omega
      have e2 : (decide (0 ≤ x) && decide (x < (S.length : Int))) = false := by simp; omega
      refine Ev.step (f := fun _ => some false) (fun k => ?_) ?_
      · simp only [talikref03_Coolers.l0]; rw [if_pos (by omega), if_pos (by omega), hx, hw, in_f, e1]
        simp
      · simp only [incr, e2, Bool.and_false, Bool.false_and]; exact Ev.now _
theorem Coolers_ev (H : List S60) (S : List S64) (l : List Int) (hS : S.length ≤ 9223372036854775807) (hl : l.length ≤ 9223372036854775807) : Ev (fun k => talikref03_Coolers.f k H S l) (incr S.length (-1) l) := by
  have := coolers_l0 H S l hS hl l.length 0 (by omega) (-1) (fun _ => rfl) (fun h => absurd rfl h)
  simpa [talikref03_Coolers.f] using this
def askedB (H : List S60) (S : List S64) (l : List Int) : Bool := validB H S && incr S.length (-1) l
theorem asked_ev (H : List S60) (S : List S64) (l : List Int) (hH : H.length ≤ 9223372036854775807) (hS : S.length ≤ 9223372036854775807) (hG : ∀ s ∈ S, s.f2.length ≤ 9223372036854775807) (hl : l.length ≤ 9223372036854775807) : Ev (fun k => taliklaw03_asked.f k H S l) (askedB H S l) := by
  unfold taliklaw03_asked.f askedB
  refine Ev.bind (Town_ev H S hH hS hG) ?_
  refine all_bool _ _ _ ?_
  exact Ev.congr (fun k => by cases talikref03_Coolers.f k H S l <;> rfl) (Coolers_ev H S l hS hl)
end Go.Proofs.Ytmkdllaagaimlaa.C
end
section
namespace Go.Proofs.Ytmkdllaagaimlaa.C
open Go.RowKit Go.Proofs.YtmkdllaagaimlaaW.PrintWords Go.Proofs.YtmkdllaagaimlaaW.PrintLast Go.Proofs.YtmkdllaagaimlaaW.PrintMore
set_option linter.unusedVariables false
set_option linter.unusedSimpArgs false
theorem sum_bd {l : List Int} {f : Int → Int} {m : Int} (h : ∀ x ∈ l, 0 ≤ f x ∧ f x ≤ m) : 0 ≤ (l.map f).sum ∧ (l.map f).sum ≤ m * l.length := by
  induction l with
  | nil => simp
  | cons a r ih =>
    have h1 := h a (by simp)
    have h2 := ih fun x hx => h x (by simp [hx])
    simp only [List.map_cons, List.sum_cons, List.length_cons]
    have : m * ((r.length + 1 : Nat) : Int) = m * r.length + m := by rw [Int.natCast_add, Int.mul_add]; simp
    omega
theorem valid_more {H : List S60} {S : List S64} (h : validB H S = true) : (∀ s ∈ S, s.f2.length = H.length) ∧ (∀ x ∈ H, spanB x.f0 = true ∧ 0 ≤ x.f1 ∧ x.f1 ≤ 100) ∧ (∀ s ∈ S, 0 ≤ s.f0 ∧ s.f0 ≤ 1000000 ∧ 1 ≤ s.f1 ∧ s.f1 ≤ 100 ∧ s.f2.all spanB = true) := by
  unfold validB at h
  simp only [Bool.and_eq_true, List.all_eq_true] at h
  obtain ⟨⟨⟨h1, h2⟩, h3⟩, h4⟩ := h
  refine ⟨fun s hs => ?_, fun x hx => ?_, fun s hs => ?_⟩
  · have := h4 s hs; simp only [siteB, Bool.and_eq_true, decide_eq_true_eq] at this; exact this.1.2
  · have := h3 x hx; simp only [houseB, Bool.and_eq_true, decide_eq_true_eq] at this; exact ⟨this.1.1, this.1.2, this.2⟩
  · have := h4 s hs; simp only [siteB, Bool.and_eq_true, decide_eq_true_eq] at this
    exact ⟨this.1.1.1.1, this.1.1.1.2, this.1.1.2.1, this.1.1.2.2, this.2⟩
end Go.Proofs.Ytmkdllaagaimlaa.C
end
section
namespace Go.Proofs.Ytmkdllaagaimlaa.C
open Go.RowKit Go.Proofs.YtmkdllaagaimlaaW.PrintWords Go.Proofs.YtmkdllaagaimlaaW.PrintLast Go.Proofs.YtmkdllaagaimlaaW.PrintMore
set_option linter.unusedVariables false
set_option linter.unusedSimpArgs false
theorem ext_lt : ∀ (l m : List Int), l.Pairwise (· < ·) → m.Pairwise (· < ·) → (∀ x, x ∈ l ↔ x ∈ m) → l = m
  | [], [], _, _, _ => rfl
  | [], b :: m, _, _, h => absurd ((h b).2 (by simp)) (by simp)
  | a :: l, [], _, _, h => absurd ((h a).1 (by simp)) (by simp)
  | a :: l, b :: m, hl, hm, h => by
    have hl' := List.pairwise_cons.1 hl
    have hm' := List.pairwise_cons.1 hm
    have hab : a = b := by
      have h1 := (h a).1 (by simp)
      have h2 := (h b).2 (by simp)
      rcases List.mem_cons.1 h1 with h1 | h1
      · exact h1
      · rcases List.mem_cons.1 h2 with h2 | h2
        · exact h2.symm
        · have := hm'.1 a h1; have := hl'.1 b h2; omega
    subst hab
    rw [ext_lt l m hl'.2 hm'.2]
    intro x
    constructor
    · intro hx
      have := (h x).1 (by simp [hx])
      rcases List.mem_cons.1 this with e | e
      · have := hl'.1 x hx; omega
      · exact e
    · intro hx
      have := (h x).2 (by simp [hx])
      rcases List.mem_cons.1 this with e | e
      · have := hm'.1 x hx; omega
      · exact e
theorem memI_lt (C : Nat) : (memI C).Pairwise (· < ·) := by
  unfold memI memN
  rw [List.pairwise_map]
  refine List.Pairwise.imp (fun h => ?_) ((List.pairwise_lt_range (n := 10)).filter _)
  exact Int.ofNat_lt.2 h
theorem mem_memI (C : Nat) (x : Int) : x ∈ memI C ↔ 0 ≤ x ∧ x < 10 ∧ C.testBit x.toNat = true := by
  unfold memI memN
  simp only [List.mem_map, List.mem_filter, List.mem_range]
  constructor
  · rintro ⟨n, ⟨h1, h2⟩, rfl⟩
    exact ⟨Int.natCast_nonneg n, Int.ofNat_lt.2 h1, by simpa using h2⟩
  · rintro ⟨h1, h2, h3⟩
    exact ⟨x.toNat, ⟨by omega, h3⟩, Int.toNat_of_nonneg h1⟩
theorem incr_sorted {m : Int} : ∀ {l : List Int} {p : Int}, incr m p l = true → l.Pairwise (· < ·)
  | [], _, _ => List.Pairwise.nil
  | x :: r, p, h => by
    simp only [incr, Bool.and_eq_true, decide_eq_true_eq] at h
    exact List.pairwise_cons.2 ⟨fun y hy => (incr_lt h.2 y hy).1, incr_sorted h.2⟩
theorem incr_of {m : Int} : ∀ {l : List Int} {p : Int}, l.Pairwise (· < ·) → (∀ x ∈ l, p < x ∧ 0 ≤ x ∧ x < m) → incr m p l = true
  | [], _, _, _ => rfl
  | x :: r, p, h, hb => by
    have h' := List.pairwise_cons.1 h
    have hx := hb x (by simp)
    simp only [incr, Bool.and_eq_true, decide_eq_true_eq]
    exact ⟨⟨hx.1, hx.2⟩, incr_of h'.2 fun y hy => ⟨h'.1 y hy, (hb y (by simp [hy])).2⟩⟩
theorem memI_mask {l : List Int} (h : l.Pairwise (· < ·)) (hb : ∀ x ∈ l, 0 ≤ x ∧ x < 10) : memI (maskN l) = l := by
  refine ext_lt _ _ (memI_lt _) h fun x => ?_
  rw [mem_memI]
  constructor
  · rintro ⟨h1, h2, h3⟩
    have := (maskN_bit x.toNat l fun y hy => (hb y hy).1).1 h3
    rwa [Int.toNat_of_nonneg h1] at this
  · intro hx
    have hb' := hb x hx
    refine ⟨hb'.1, hb'.2, (maskN_bit x.toNat l fun y hy => (hb y hy).1).2 ?_⟩
    rwa [Int.toNat_of_nonneg hb'.1]
end Go.Proofs.Ytmkdllaagaimlaa.C
end
section
namespace Go.Proofs.Ytmkdllaagaimlaa.C
open Go.RowKit Go.Proofs.YtmkdllaagaimlaaW.PrintWords Go.Proofs.YtmkdllaagaimlaaW.PrintLast Go.Proofs.YtmkdllaagaimlaaW.PrintMore
set_option linter.unusedVariables false
set_option linter.unusedSimpArgs false
theorem known_ev' : Ev (fun k => (taliklaw03_known.f k).bind fun t => some t) true := ⟨0, fun _ _ => rfl⟩
end Go.Proofs.Ytmkdllaagaimlaa.C
end
section
namespace Go.Proofs.Ytmkdllaagaimlaa.C
open Go.RowKit Go.Proofs.YtmkdllaagaimlaaW.PrintWords Go.Proofs.YtmkdllaagaimlaaW.PrintLast Go.Proofs.YtmkdllaagaimlaaW.PrintMore
attribute [local go_sem] max2_int min2_int max_two min_two max_three min_three max_four min_four   -- for this text's walks alone
set_option linter.unusedVariables false
set_option linter.unusedSimpArgs false
mutual
def talikref03_Before.l0 : Nat → List Int → List Int → Int → Option (Bool)
  | 0, _, _, _ => none
  | k + 1, x0, x1, x5 => if x5 < (x0.length : Int) then (talikref03_Before.j1 k x0 x1 x5 (decide (x5 < (x1.length : Int)))) else (talikref03_Before.j1 k x0 x1 x5 false)
def talikref03_Before.j1 : Nat → List Int → List Int → Int → Bool → Option (Bool)
  | 0, _, _, _, _ => none
  | k + 1, x0, x1, x5, x15 => if x15 = true then (if 0 ≤ x5 then (if x5 < (x0.length : Int) then (if x5 < (x1.length : Int) then (if (rd x0 x5) = (rd x1 x5) then (talikref03_Before.l0 k x0 x1 (wrap64 (x5 + 1))) else (some (decide ((rd x0 x5) < (rd x1 x5))))) else (none)) else (none)) else (none)) else (some false)
end
def talikref03_Before.f (k : Nat) (l0 : List Int) (l1 : List Int) : Option (Bool) := talikref03_Before.l0 k l0 l1 0
set_option maxHeartbeats 8000000 in
set_option maxRecDepth 100000 in
theorem talikref03_Before.calls (k : Nat) (A0 : Option Addr) (c0 : Nat) (l0 : List Int) (A1 : Option Addr) (c1 : Nat) (l1 : List Int) (r : Bool) (w : World) (hr0 : Kd.C (Kd.int .i64) w A0 l0.length l0) (hc0 : l0.length ≤ c0) (hr1 : Kd.C (Kd.int .i64) w A1 l1.length l1) (hc1 : l1.length ≤ c1) (h : talikref03_Before.f k l0 l1 = some r) :
    Calls Try.prog 25 #[.slice A0 l0.length c0, .slice A1 l1.length c1] w fun e w' => e = .returned (.bool r) ∧ Drawn0 w w' := by
  have HR0 := Aside0.mk hr0
  have HC0 := Aside0.mk hc0
  clear hr0 hc0
  have HR1 := Aside0.mk hr1
  have HC1 := Aside0.mk hc1
  clear hr1 hc1
  have H : (talikref03_Before.l0 k l0 l1 0) = some r := h
  clear h
  have H' := Aside0.mk H
  clear H
  go_enter Try.func25, Try.ntmps25
  go_wp2
  repeat (go_quiet (fail); try go_wp2)
  go_loopg [5] k (fun kq v5 w' => ∃ (x5_1 : Int), v5 = .int .i64 x5_1 ∧ Aside0 (talikref03_Before.l0 kq l0 l1 x5_1 = some r) ∧ Aside0 (kq ≤ k) ∧ Drawn0 w w')
  case atStart => exact ⟨(0), (by first | rfl | (simp; done) | (simp [*]; done)), H', ⟨Nat.le_refl _⟩, by repeat (first | exact Drawn0.refl _ | apply Drawn0.step)⟩
  case round =>
    clear H'
    try clear c1
    try clear c2
    try clear p2
    obtain ⟨x5_1, rfl, HA, HK1, ⟨m1, rfl⟩⟩ := hrel
    cases gk with
    | zero => exact absurd HA.out (by simp [talikref03_Before.l0])
    | succ k1 =>
      have H := HA.out
      clear HA
      simp only [talikref03_Before.l0] at H
      have HC3 := Aside0.mk H
      clear H
      go_upto_region 2 with (fail)
      repeat (go_quiet (fail); go_upto_region 2 with (fail))
      go_cut [15] (fun v15 wc => ∃ (kq : Nat) (x15_2 : Bool), v15 = .bool x15_2 ∧ Aside0 (talikref03_Before.j1 kq l0 l1 x5_1 x15_2 = some r) ∧ Aside0 (kq ≤ k1) ∧ Drawn0 w wc)
      case first =>
        have H := HC3.out
        clear HC3
        by_cases c4 : x5_1 < (l0.length : Int)
        · rw [if_pos c4] at H
          have c4b0 : decide (x5_1 < (l0.length : Int)) = true := decide_eq_true c4
          clear c4
          (first | rw [c4b0] | (simp only [i64_w, i32_w]; rw [c4b0]) | skip)
          have H' := Aside0.mk H
          clear H
          go_wp2
          repeat (go_quiet (fail); try go_wp2)
          go_meet
          case rel => exact ⟨_, (decide (x5_1 < (l1.length : Int))), (by first | rfl | (simp; done) | (simp [*]; done)), H', ⟨by have := HK1.out; first | omega | exact Nat.le_refl _⟩, by repeat (first | exact Drawn0.refl _ | apply Drawn0.step)⟩
        · rw [if_neg c4] at H
          have c4b0 : decide (x5_1 < (l0.length : Int)) = false := decide_eq_false c4
          clear c4
          (first | rw [c4b0] | (simp only [i64_w, i32_w]; rw [c4b0]) | skip)
          have H' := Aside0.mk H
          clear H
          go_wp2
          repeat (go_quiet (fail); try go_wp2)
          go_meet
          case rel => exact ⟨_, (false), (by first | rfl | (simp; done) | (simp [*]; done)), H', ⟨by have := HK1.out; first | omega | exact Nat.le_refl _⟩, by repeat (first | exact Drawn0.refl _ | apply Drawn0.step)⟩
      case rest =>
        clear HC3
        try clear c1
        try clear c2
        try clear p2
        try clear c4
        try clear c4b0
        try clear p2
        obtain ⟨kq, x15_2, rfl, HA, HJ2, ⟨mc2, rfl⟩⟩ := hcut
        cases kq with
        | zero => exact absurd HA.out (by simp [talikref03_Before.j1])
        | succ kj2 =>
          have H := HA.out
          clear HA
          simp only [talikref03_Before.j1] at H
          by_cases c5 : x15_2 = true
          · subst c5
            have H1 : (if 0 ≤ x5_1 then (if x5_1 < (l0.length : Int) then (if x5_1 < (l1.length : Int) then (if (rd l0 x5_1) = (rd l1 x5_1) then (talikref03_Before.l0 kj2 l0 l1 (wrap64 (x5_1 + 1))) else (some (decide ((rd l0 x5_1) < (rd l1 x5_1))))) else (none)) else (none)) else (none)) = some r := by rw [if_pos rfl] at H; exact H
            clear H
            have H := H1
            clear H1
            by_cases c6 : 0 ≤ x5_1
            · rw [if_pos c6] at H
              have c6b0 : decide (0 ≤ x5_1) = true := decide_eq_true c6
              clear c6
              by_cases c7 : x5_1 < (l0.length : Int)
              · rw [if_pos c7] at H
                have c7b0 : decide (x5_1 < (l0.length : Int)) = true := decide_eq_true c7
                clear c7
                by_cases c8 : x5_1 < (l1.length : Int)
                · rw [if_pos c8] at H
                  have c8b0 : decide (x5_1 < (l1.length : Int)) = true := decide_eq_true c8
                  clear c8
                  by_cases c9 : (rd l0 x5_1) = (rd l1 x5_1)
                  · rw [if_pos c9] at H
                    have c9b0 : ((rd l0 x5_1) == (rd l1 x5_1)) = true := beq_iff_eq.mpr c9
                    have c9b1 : ((rd l0 x5_1) != (rd l1 x5_1)) = false := bne_eq_false_iff_eq.mpr c9
                    clear c9
                    have H' := Aside0.mk H
                    clear H
                    have p438 : 0 ≤ (x5_1 : Int) := of_decide_eq_true (by first | (with_reducible assumption) | assumption)
                    have q438 : x5_1 < (l0.length : Int) := of_decide_eq_true (by first | (with_reducible assumption) | assumption)
                    obtain ⟨ad438, e438, hx438_0⟩ := Kd.at_int HR0.out x5_1 p438 q438
                    cases e438
                    replace p438 := eq_true p438
                    replace q438 := eq_true q438
                    have p439 : 0 ≤ (x5_1 : Int) := of_decide_eq_true (by first | (with_reducible assumption) | assumption)
                    have q439 : x5_1 < (l1.length : Int) := of_decide_eq_true (by first | (with_reducible assumption) | assumption)
                    obtain ⟨ad439, e439, hx439_0⟩ := Kd.at_int HR1.out x5_1 p439 q439
                    cases e439
                    replace p439 := eq_true p439
                    replace q439 := eq_true q439
                    go_wp2
                    repeat (go_quiet (fail); try go_wp2)
                    go_roundg kj2
                    case measure => have := HK1.out; have := HJ2.out; omega
                    case rel => exact ⟨(wrap64 (x5_1 + 1)), (by first | rfl | (simp; done) | (simp [*]; done)), H', ⟨by have := HK1.out; have := HJ2.out; omega⟩, by repeat (first | exact Drawn0.refl _ | apply Drawn0.step)⟩
                  · rw [if_neg c9] at H
                    have c9b0 : ((rd l0 x5_1) == (rd l1 x5_1)) = false := beq_eq_false_iff_ne.mpr c9
                    have c9b1 : ((rd l0 x5_1) != (rd l1 x5_1)) = true := bne_iff_ne.mpr c9
                    obtain rfl := Option.some.inj H
                    have p438 : 0 ≤ (x5_1 : Int) := of_decide_eq_true (by first | (with_reducible assumption) | assumption)
                    have q438 : x5_1 < (l0.length : Int) := of_decide_eq_true (by first | (with_reducible assumption) | assumption)
                    obtain ⟨ad438, e438, hx438_0⟩ := Kd.at_int HR0.out x5_1 p438 q438
                    cases e438
                    replace p438 := eq_true p438
                    replace q438 := eq_true q438
                    have p439 : 0 ≤ (x5_1 : Int) := of_decide_eq_true (by first | (with_reducible assumption) | assumption)
                    have q439 : x5_1 < (l1.length : Int) := of_decide_eq_true (by first | (with_reducible assumption) | assumption)
                    obtain ⟨ad439, e439, hx439_0⟩ := Kd.at_int HR1.out x5_1 p439 q439
                    cases e439
                    replace p439 := eq_true p439
                    replace q439 := eq_true q439
                    have p440 : 0 ≤ (x5_1 : Int) := of_decide_eq_true (by first | (with_reducible assumption) | assumption)
                    have q440 : x5_1 < (l0.length : Int) := of_decide_eq_true (by first | (with_reducible assumption) | assumption)
                    obtain ⟨ad440, e440, hx440_0⟩ := Kd.at_int HR0.out x5_1 p440 q440
                    obtain rfl : ad438 = ad440 := (by injection e440)
                    replace p440 := eq_true p440
                    replace q440 := eq_true q440
                    have p441 : 0 ≤ (x5_1 : Int) := of_decide_eq_true (by first | (with_reducible assumption) | assumption)
                    have q441 : x5_1 < (l1.length : Int) := of_decide_eq_true (by first | (with_reducible assumption) | assumption)
                    obtain ⟨ad441, e441, hx441_0⟩ := Kd.at_int HR1.out x5_1 p441 q441
                    obtain rfl : ad439 = ad441 := (by injection e441)
                    replace p441 := eq_true p441
                    replace q441 := eq_true q441
                    go_wp2
                    repeat (go_quiet (fail); try go_wp2)
                    go_ret
                    exact ⟨by first | rfl | (simp; done) | (simp [*]; done), by repeat (first | exact Drawn0.refl _ | apply Drawn0.step)⟩
                · rw [if_neg c8] at H
                  exact absurd H (by simp)
              · rw [if_neg c7] at H
                exact absurd H (by simp)
            · rw [if_neg c6] at H
              exact absurd H (by simp)
          · replace c5 := Bool.eq_false_iff.mpr c5
            subst c5
            have H1 : (some false) = some r := by rw [if_neg (show ¬ (false = true) by decide)] at H; exact H
            clear H
            have H := H1
            clear H1
            obtain rfl := Option.some.inj H
            go_wp2
            repeat (go_quiet (fail); try go_wp2)
            go_ret
            exact ⟨by first | rfl | (simp; done) | (simp [*]; done), by repeat (first | exact Drawn0.refl _ | apply Drawn0.step)⟩
end Go.Proofs.Ytmkdllaagaimlaa.C
end
section
namespace Go.Proofs.Ytmkdllaagaimlaa.C
open Go.RowKit Go.Proofs.YtmkdllaagaimlaaW.PrintWords Go.Proofs.YtmkdllaagaimlaaW.PrintLast Go.Proofs.YtmkdllaagaimlaaW.PrintMore
attribute [local go_sem] max2_int min2_int max_two min_two max_three min_three max_four min_four   -- for this text's walks alone
set_option linter.unusedVariables false
set_option linter.unusedSimpArgs false
mutual
def taliklaw03_CoolRivals.j0 : Nat → Int → List Int → Bool → List (S60) → List (S64) → Option (Bool)
  | 0, _, _, _, _, _ => none
  | k + 1, x1, x2, x35, x443000, x443001 => if x35 = true then ((taliklaw03_known.f k).bind fun t446 => (some t446)) else ((cool_Best.f x443000 x443001 x1).bind fun bt447 => ((cool_Floor.f x443000 x443001 x1).bind fun bt452 => ((cool_Keeps.f x443000 x443001 x2 x1).bind fun bt454 => (if bt454.2 = 0 then (if bt454.1 = true then (if bt452.2 = 0 then (if bt452.1 < 0 then (taliklaw03_CoolRivals.j1 k x1 x2 bt447.1 bt447.2.1 bt447.2.2 bt452.1 bt452.2 bt454.1 true x443000 x443001) else (taliklaw03_CoolRivals.j1 k x1 x2 bt447.1 bt447.2.1 bt447.2.2 bt452.1 bt452.2 bt454.1 (decide (bt452.1 > (x2.length : Int))) x443000 x443001)) else (taliklaw03_CoolRivals.j1 k x1 x2 bt447.1 bt447.2.1 bt447.2.2 bt452.1 bt452.2 bt454.1 true x443000 x443001)) else (taliklaw03_CoolRivals.j1 k x1 x2 bt447.1 bt447.2.1 bt447.2.2 bt452.1 bt452.2 bt454.1 false x443000 x443001)) else (taliklaw03_CoolRivals.j1 k x1 x2 bt447.1 bt447.2.1 bt447.2.2 bt452.1 bt452.2 bt454.1 true x443000 x443001)))))
def taliklaw03_CoolRivals.j1 : Nat → Int → List Int → List Int → Int → Int → Int → Int → Bool → Bool → List (S60) → List (S64) → Option (Bool)
  | 0, _, _, _, _, _, _, _, _, _, _, _ => none
  | k + 1, x1, x2, x7, x8, x9, x10, x11, x12, x75, x443000, x443001 => if x75 = true then (some false) else (if x9 = 0 then ((talikref03_Coolers.f k x443000 x443001 x7).bind fun t457 => (if t457 = true then ((talikref03_Cost.f k x443000 x443001 x7).bind fun t458 => (if x8 = t458 then (if x11 = 0 then (taliklaw03_CoolRivals.j2 k x1 x2 x7 x8 x12 (decide (x10 > (x7.length : Int))) x443000 x443001) else (taliklaw03_CoolRivals.j2 k x1 x2 x7 x8 x12 true x443000 x443001)) else (taliklaw03_CoolRivals.j2 k x1 x2 x7 x8 x12 true x443000 x443001))) else (taliklaw03_CoolRivals.j2 k x1 x2 x7 x8 x12 true x443000 x443001))) else (if x9 = 5 then (if x12 = true then (some false) else ((taliklaw03_known.f k).bind fun t456 => (some t456))) else (some false)))
def taliklaw03_CoolRivals.j2 : Nat → Int → List Int → List Int → Int → Bool → Bool → List (S60) → List (S64) → Option (Bool)
  | 0, _, _, _, _, _, _, _, _ => none
  | k + 1, x1, x2, x7, x8, x12, x107, x443000, x443001 => if x107 = true then (some false) else ((cool_Keeps.f x443000 x443001 x7 x1).bind fun bt459 => (if bt459.2 = 0 then (taliklaw03_CoolRivals.j3 k x2 x7 x8 x12 (!bt459.1) x443000 x443001) else (taliklaw03_CoolRivals.j3 k x2 x7 x8 x12 true x443000 x443001)))
def taliklaw03_CoolRivals.j3 : Nat → List Int → List Int → Int → Bool → Bool → List (S60) → List (S64) → Option (Bool)
  | 0, _, _, _, _, _, _, _ => none
  | k + 1, x2, x7, x8, x12, x120, x443000, x443001 => if x120 = true then (some false) else ((talikref03_Cost.f k x443000 x443001 x2).bind fun t461 => (if x12 = true then (if t461 > x8 then ((taliklaw03_known.f k).bind fun t462 => (some t462)) else (if t461 = x8 then (if (x2.length : Int) > (x7.length : Int) then ((taliklaw03_known.f k).bind fun t463 => (some t463)) else (if (x2.length : Int) = (x7.length : Int) then ((talikref03_Before.f k x2 x7).bind fun t464 => (if t464 = true then (some false) else ((taliklaw03_known.f k).bind fun t465 => (some t465)))) else (some false))) else (some false))) else ((taliklaw03_known.f k).bind fun t466 => (some t466))))
end
def taliklaw03_CoolRivals.f (k : Nat) (l0_0 : List (S60)) (l0_1 : List (S64)) (a1 : Int) (l2 : List Int) : Option (Bool) := (taliklaw03_short.f k l0_0 l0_1).bind fun t443 => (if t443 = true then (if (l2.length : Int) > 15 then (taliklaw03_CoolRivals.j0 k a1 l2 true l0_0 l0_1) else ((taliklaw03_asked.f k l0_0 l0_1 l2).bind fun t444 => (if t444 = true then ((talikref03_Fails.f a1).bind fun t445 => (taliklaw03_CoolRivals.j0 k a1 l2 (!t445) l0_0 l0_1)) else (taliklaw03_CoolRivals.j0 k a1 l2 true l0_0 l0_1)))) else (taliklaw03_CoolRivals.j0 k a1 l2 true l0_0 l0_1))
set_option maxHeartbeats 8000000 in
set_option maxRecDepth 100000 in
theorem taliklaw03_CoolRivals.calls (k : Nat) (A0_0 : Option Addr) (c0_0 : Nat) (l0_0 : List (S60)) (A0_1 : Option Addr) (c0_1 : Nat) (l0_1 : List (S64)) (a1 : Int) (A2 : Option Addr) (c2 : Nat) (l2 : List Int) (r : Bool) (w : World) (hr0_0 : Kd.C k60 w A0_0 l0_0.length l0_0) (hc0_0 : l0_0.length ≤ c0_0) (hr0_1 : Kd.C k64 w A0_1 l0_1.length l0_1) (hc0_1 : l0_1.length ≤ c0_1) (hr2 : Kd.C (Kd.int .i64) w A2 l2.length l2) (hc2 : l2.length ≤ c2) (h : taliklaw03_CoolRivals.f k l0_0 l0_1 a1 l2 = some r) :
    Calls Try.prog 4 #[.agg #[.slice A0_0 l0_0.length c0_0, .slice A0_1 l0_1.length c0_1], .int .i64 a1, .slice A2 l2.length c2] w fun e w' => e = .returned (.bool r) ∧ Below w.heap.size w w' := by
  have hu25 := Try.underlying25
  have HR0_0 := Aside0.mk hr0_0
  have HC0_0 := Aside0.mk hc0_0
  clear hr0_0 hc0_0
  have HR0_1 := Aside0.mk hr0_1
  have HC0_1 := Aside0.mk hc0_1
  clear hr0_1 hc0_1
  have HR2 := Aside0.mk hr2
  have HC2 := Aside0.mk hc2
  clear hr2 hc2
  have HB := Aside0.mk (Below.refl w.heap.size w)
  have H : ((taliklaw03_short.f k l0_0 l0_1).bind fun t443 => (if t443 = true then (if (l2.length : Int) > 15 then (taliklaw03_CoolRivals.j0 k a1 l2 true l0_0 l0_1) else ((taliklaw03_asked.f k l0_0 l0_1 l2).bind fun t444 => (if t444 = true then ((talikref03_Fails.f a1).bind fun t445 => (taliklaw03_CoolRivals.j0 k a1 l2 (!t445) l0_0 l0_1)) else (taliklaw03_CoolRivals.j0 k a1 l2 true l0_0 l0_1)))) else (taliklaw03_CoolRivals.j0 k a1 l2 true l0_0 l0_1))) = some r := h
  clear h
  have HC4 := Aside0.mk H
  clear H
  go_enter Try.func4, Try.ntmps4
  go_upto_region 1 with (first | ((with_reducible refine gate_dst (N := 3) rfl ?_); (try (refine gate_guard (by rfl) ?_; dsimp only)); refine box_event ?hg (N := 3) ?hd (cs := #[.slice A0_0 l0_0.length c0_0, .slice A0_1 l0_1.length c0_1]) (t := 25) ?hr ?_; (case hd => rfl); (case hg => rfl); (case hr => first | (go_simp; done) | (go_simp; rfl)); intro gb442 hg w5 hbox hb; have n0_ := Aside0.mk (below_step (by repeat (first | (with_reducible first | exact HB.out | apply below_alloc | apply pw_below_drewN | apply below_drew1) | exact HB.out)) hb); have n1_ := Aside0.mk (hbox); have n2_ := Aside0.mk ((by rw [hg]; exact (below_size (by repeat (first | (with_reducible first | exact HB.out | apply below_alloc | apply pw_below_drewN | apply below_drew1) | exact HB.out))) : w.heap.size ≤ gb442)); have n3_ := Aside0.mk ((by rw [hg]; exact (below_size (by repeat (first | (with_reducible first | exact HB.out | apply below_alloc | apply pw_below_drewN | apply below_drew1) | exact HB.out))) : w.heap.size ≤ gb442)); clear HB; have HB := n0_; have BK442 := n1_; have GW442 := n2_; have GE442 := n3_; clear n0_ n1_ n2_ n3_; clear hb hbox hg))
  (try simp only [Act.put, List.setIfInBounds_toArray, List.set_cons_zero, List.set_cons_succ])
  go_cut [35] (fun v35 wc => ∃ (kq : Nat) (x35_3 : Bool), v35 = .bool x35_3 ∧ Aside0 (taliklaw03_CoolRivals.j0 kq a1 l2 x35_3 l0_0 l0_1 = some r) ∧ Aside0 (kq ≤ k) ∧ Aside0 (wc.heap[gb442]? = some (.cells #[(.slice A0_0 l0_0.length c0_0), (.slice A0_1 l0_1.length c0_1)] 25 (0, 0))) ∧ Aside0 (Below w.heap.size w wc))
  case first =>
    have H := HC4.out
    clear HC4
    replace H := Option.bind_eq_some_iff.mp H
    obtain ⟨t443, A60, H⟩ := H
    replace H : (if t443 = true then (if (l2.length : Int) > 15 then (taliklaw03_CoolRivals.j0 k a1 l2 true l0_0 l0_1) else ((taliklaw03_asked.f k l0_0 l0_1 l2).bind fun t444 => (if t444 = true then ((talikref03_Fails.f a1).bind fun t445 => (taliklaw03_CoolRivals.j0 k a1 l2 (!t445) l0_0 l0_1)) else (taliklaw03_CoolRivals.j0 k a1 l2 true l0_0 l0_1)))) else (taliklaw03_CoolRivals.j0 k a1 l2 true l0_0 l0_1)) = some r := H
    have A6 := Aside0.mk A60
    clear A60
    by_cases c7 : t443 = true
    · subst c7
      have H1 : (if (l2.length : Int) > 15 then (taliklaw03_CoolRivals.j0 k a1 l2 true l0_0 l0_1) else ((taliklaw03_asked.f k l0_0 l0_1 l2).bind fun t444 => (if t444 = true then ((talikref03_Fails.f a1).bind fun t445 => (taliklaw03_CoolRivals.j0 k a1 l2 (!t445) l0_0 l0_1)) else (taliklaw03_CoolRivals.j0 k a1 l2 true l0_0 l0_1)))) = some r := by rw [if_pos rfl] at H; exact H
      clear H
      have H := H1
      clear H1
      by_cases c8 : (l2.length : Int) > 15
      · rw [if_pos c8] at H
        have c8b0 : decide (15 < (l2.length : Int)) = true := decide_eq_true c8
        have c8b1 : decide (15 < l2.length) = true := decide_eq_true (by omega)
        clear c8
        (first | rw [c8b0] | (simp only [i64_w, i32_w]; rw [c8b0]) | skip)
        have H' := Aside0.mk H
        clear H
        have hcz9_0 : w5.cell? ⟨gb442, 0, none⟩ = some (.slice A0_0 l0_0.length c0_0) := (blk_cell BK442.out 0).trans rfl
        have hcz9_1 : w5.cell? ⟨gb442, 1, none⟩ = some (.slice A0_1 l0_1.length c0_1) := (blk_cell BK442.out 1).trans rfl
        have hfz9_0 := blk_frozen BK442.out 0
        have hfz9_1 := blk_frozen BK442.out 1
        go_wp2_with (first | ((with_reducible refine gate_callee (f := 12) rfl ?_); refine goesL_ (some 18) rfl rfl Try.func12 (by kernel_rfl) rfl #[.agg #[.slice A0_0 l0_0.length c0_0, .slice A0_1 l0_1.length c0_1]] rfl (by (try simp only [List.map_toArray, List.map_cons, List.map_nil]); first | done | rfl | (simp only [List.length_drop, List.length_take]; rfl)) ?_; (with_reducible refine (taliklaw03_short.calls k _ _ l0_0 _ _ l0_1 true _ ?side1 ?side2 ?side3 ?side4 A6.out).mono ?_); (case side1 => repeat (first | exact (Kd.C_below HR0_0.out HB.out) | (with_reducible refine Kd.C_alloc ?_ _) | (with_reducible refine Kd.C_drewN ?_ _) | (with_reducible refine Kd.C_drew ?_))); (case side2 => exact HC0_0.out); (case side3 => repeat (first | exact (Kd.C_below HR0_1.out HB.out) | (with_reducible refine Kd.C_alloc ?_ _) | (with_reducible refine Kd.C_drewN ?_ _) | (with_reducible refine Kd.C_drew ?_))); (case side4 => exact HC0_1.out); rintro e w10 ⟨rfl, hb⟩; refine ⟨_, rfl, ?_⟩; have n0_ := Aside0.mk (blk_below (g := gb442) (o := .cells #[.slice A0_0 l0_0.length c0_0, .slice A0_1 l0_1.length c0_1] 25 (0, 0)) (by (with_reducible repeat (first | refine blk_drewN ?_ _ | refine blk_drew ?_ | refine blk_alloc ?_ _)); exact BK442.out) hb); have n1_ := Aside0.mk (below_step (by repeat (first | (with_reducible first | exact HB.out | apply below_alloc | apply pw_below_drewN | apply below_drew1 | refine below_set ?_ GE442.out) | exact HB.out)) hb); clear BK442; clear HB; have BK442 := n0_; have HB := n1_; clear n0_ n1_; (try clear hb); (try clear hb2); (try clear hk); (try clear hi)))
        go_meet
        case rel => exact ⟨_, (true), (by first | rfl | (simp; done) | (simp [*]; done)), H', ⟨by first | omega | exact Nat.le_refl _⟩, ⟨by (with_reducible repeat (first | refine blk_drewN ?_ _ | refine blk_drew ?_ | refine blk_alloc ?_ _)); exact BK442.out⟩, ⟨by repeat (first | (with_reducible first | exact HB.out | apply below_alloc | apply pw_below_drewN | apply below_drew1 | refine below_set ?_ GE442.out) | exact HB.out)⟩⟩
      · rw [if_neg c8] at H
        have c8b0 : decide (15 < (l2.length : Int)) = false := decide_eq_false c8
        have c8b1 : decide (15 < l2.length) = false := decide_eq_false (by omega)
        clear c8
        (first | rw [c8b0] | (simp only [i64_w, i32_w]; rw [c8b0]) | skip)
        replace H := Option.bind_eq_some_iff.mp H
        obtain ⟨t444, A110, H⟩ := H
        replace H : (if t444 = true then ((talikref03_Fails.f a1).bind fun t445 => (taliklaw03_CoolRivals.j0 k a1 l2 (!t445) l0_0 l0_1)) else (taliklaw03_CoolRivals.j0 k a1 l2 true l0_0 l0_1)) = some r := H
        have A11 := Aside0.mk A110
        clear A110
        by_cases c12 : t444 = true
        · subst c12
          have H1 : ((talikref03_Fails.f a1).bind fun t445 => (taliklaw03_CoolRivals.j0 k a1 l2 (!t445) l0_0 l0_1)) = some r := by rw [if_pos rfl] at H; exact H
          clear H
          have H := H1
          clear H1
          replace H := Option.bind_eq_some_iff.mp H
          obtain ⟨t445, A130, H⟩ := H
          replace H : (taliklaw03_CoolRivals.j0 k a1 l2 (!t445) l0_0 l0_1) = some r := H
          have A13 := Aside0.mk A130
          clear A130
          have H' := Aside0.mk H
          clear H
          have hcz14_0 : w5.cell? ⟨gb442, 0, none⟩ = some (.slice A0_0 l0_0.length c0_0) := (blk_cell BK442.out 0).trans rfl
          have hcz14_1 : w5.cell? ⟨gb442, 1, none⟩ = some (.slice A0_1 l0_1.length c0_1) := (blk_cell BK442.out 1).trans rfl
          have hfz14_0 := blk_frozen BK442.out 0
          have hfz14_1 := blk_frozen BK442.out 1
          go_wp2_with (first | ((with_reducible refine gate_callee (f := 12) rfl ?_); refine goesL_ (some 18) rfl rfl Try.func12 (by kernel_rfl) rfl #[.agg #[.slice A0_0 l0_0.length c0_0, .slice A0_1 l0_1.length c0_1]] rfl (by (try simp only [List.map_toArray, List.map_cons, List.map_nil]); first | done | rfl | (simp only [List.length_drop, List.length_take]; rfl)) ?_; (with_reducible refine (taliklaw03_short.calls k _ _ l0_0 _ _ l0_1 true _ ?side1 ?side2 ?side3 ?side4 A6.out).mono ?_); (case side1 => repeat (first | exact (Kd.C_below HR0_0.out HB.out) | (with_reducible refine Kd.C_alloc ?_ _) | (with_reducible refine Kd.C_drewN ?_ _) | (with_reducible refine Kd.C_drew ?_))); (case side2 => exact HC0_0.out); (case side3 => repeat (first | exact (Kd.C_below HR0_1.out HB.out) | (with_reducible refine Kd.C_alloc ?_ _) | (with_reducible refine Kd.C_drewN ?_ _) | (with_reducible refine Kd.C_drew ?_))); (case side4 => exact HC0_1.out); rintro e w15 ⟨rfl, hb⟩; refine ⟨_, rfl, ?_⟩; have n0_ := Aside0.mk (blk_below (g := gb442) (o := .cells #[.slice A0_0 l0_0.length c0_0, .slice A0_1 l0_1.length c0_1] 25 (0, 0)) (by (with_reducible repeat (first | refine blk_drewN ?_ _ | refine blk_drew ?_ | refine blk_alloc ?_ _)); exact BK442.out) hb); have n1_ := Aside0.mk (below_step (by repeat (first | (with_reducible first | exact HB.out | apply below_alloc | apply pw_below_drewN | apply below_drew1 | refine below_set ?_ GE442.out) | exact HB.out)) hb); clear BK442; clear HB; have BK442 := n0_; have HB := n1_; clear n0_ n1_; (try clear hb); (try clear hb2); (try clear hk); (try clear hi); have hcz16_0 : w15.cell? ⟨gb442, 0, none⟩ = some (.slice A0_0 l0_0.length c0_0) := (blk_cell BK442.out 0).trans rfl; have hcz16_1 : w15.cell? ⟨gb442, 1, none⟩ = some (.slice A0_1 l0_1.length c0_1) := (blk_cell BK442.out 1).trans rfl; have hfz16_0 := blk_frozen BK442.out 0; have hfz16_1 := blk_frozen BK442.out 1) | (go_at_call 22; (with_reducible refine (taliklaw03_asked.calls k _ _ l0_0 _ _ l0_1 _ _ l2 true _ ?side1 ?side2 ?side3 ?side4 ?side5 ?side6 A11.out).mono ?_); (case side1 => repeat (first | exact (Kd.C_below HR0_0.out HB.out) | (with_reducible refine Kd.C_alloc ?_ _) | (with_reducible refine Kd.C_drewN ?_ _) | (with_reducible refine Kd.C_drew ?_))); (case side2 => exact HC0_0.out); (case side3 => repeat (first | exact (Kd.C_below HR0_1.out HB.out) | (with_reducible refine Kd.C_alloc ?_ _) | (with_reducible refine Kd.C_drewN ?_ _) | (with_reducible refine Kd.C_drew ?_))); (case side4 => exact HC0_1.out); (case side5 => repeat (first | exact (Kd.C_below HR2.out HB.out) | (with_reducible refine Kd.C_alloc ?_ _) | (with_reducible refine Kd.C_drewN ?_ _) | (with_reducible refine Kd.C_drew ?_))); (case side6 => exact HC2.out); rintro e w17 ⟨rfl, hb⟩; have n0_ := Aside0.mk (blk_below (g := gb442) (o := .cells #[.slice A0_0 l0_0.length c0_0, .slice A0_1 l0_1.length c0_1] 25 (0, 0)) (by (with_reducible repeat (first | refine blk_drewN ?_ _ | refine blk_drew ?_ | refine blk_alloc ?_ _)); exact BK442.out) hb); have n1_ := Aside0.mk (below_step (by repeat (first | (with_reducible first | exact HB.out | apply below_alloc | apply pw_below_drewN | apply below_drew1 | refine below_set ?_ GE442.out) | exact HB.out)) hb); clear BK442; clear HB; have BK442 := n0_; have HB := n1_; clear n0_ n1_; (try clear hb); (try clear hb2); (try clear hk); (try clear hi)) | (go_at_call 17; (with_reducible refine (talikref03_Fails.calls a1 t445 _ A13.out).mono ?_); rintro e w' ⟨rfl, ⟨nd, rfl⟩⟩))
          go_meet
          case rel => exact ⟨_, (!t445), (by first | rfl | (simp; done) | (simp [*]; done)), H', ⟨by first | omega | exact Nat.le_refl _⟩, ⟨by (with_reducible repeat (first | refine blk_drewN ?_ _ | refine blk_drew ?_ | refine blk_alloc ?_ _)); exact BK442.out⟩, ⟨by repeat (first | (with_reducible first | exact HB.out | apply below_alloc | apply pw_below_drewN | apply below_drew1 | refine below_set ?_ GE442.out) | exact HB.out)⟩⟩
        · replace c12 := Bool.eq_false_iff.mpr c12
          subst c12
          have H1 : (taliklaw03_CoolRivals.j0 k a1 l2 true l0_0 l0_1) = some r := by rw [if_neg (show ¬ (false = true) by decide)] at H; exact H
          clear H
          have H := H1
          clear H1
          have H' := Aside0.mk H
          clear H
          have hcz18_0 : w5.cell? ⟨gb442, 0, none⟩ = some (.slice A0_0 l0_0.length c0_0) := (blk_cell BK442.out 0).trans rfl
          have hcz18_1 : w5.cell? ⟨gb442, 1, none⟩ = some (.slice A0_1 l0_1.length c0_1) := (blk_cell BK442.out 1).trans rfl
          have hfz18_0 := blk_frozen BK442.out 0
          have hfz18_1 := blk_frozen BK442.out 1
          go_wp2_with (first | ((with_reducible refine gate_callee (f := 12) rfl ?_); refine goesL_ (some 18) rfl rfl Try.func12 (by kernel_rfl) rfl #[.agg #[.slice A0_0 l0_0.length c0_0, .slice A0_1 l0_1.length c0_1]] rfl (by (try simp only [List.map_toArray, List.map_cons, List.map_nil]); first | done | rfl | (simp only [List.length_drop, List.length_take]; rfl)) ?_; (with_reducible refine (taliklaw03_short.calls k _ _ l0_0 _ _ l0_1 true _ ?side1 ?side2 ?side3 ?side4 A6.out).mono ?_); (case side1 => repeat (first | exact (Kd.C_below HR0_0.out HB.out) | (with_reducible refine Kd.C_alloc ?_ _) | (with_reducible refine Kd.C_drewN ?_ _) | (with_reducible refine Kd.C_drew ?_))); (case side2 => exact HC0_0.out); (case side3 => repeat (first | exact (Kd.C_below HR0_1.out HB.out) | (with_reducible refine Kd.C_alloc ?_ _) | (with_reducible refine Kd.C_drewN ?_ _) | (with_reducible refine Kd.C_drew ?_))); (case side4 => exact HC0_1.out); rintro e w19 ⟨rfl, hb⟩; refine ⟨_, rfl, ?_⟩; have n0_ := Aside0.mk (blk_below (g := gb442) (o := .cells #[.slice A0_0 l0_0.length c0_0, .slice A0_1 l0_1.length c0_1] 25 (0, 0)) (by (with_reducible repeat (first | refine blk_drewN ?_ _ | refine blk_drew ?_ | refine blk_alloc ?_ _)); exact BK442.out) hb); have n1_ := Aside0.mk (below_step (by repeat (first | (with_reducible first | exact HB.out | apply below_alloc | apply pw_below_drewN | apply below_drew1 | refine below_set ?_ GE442.out) | exact HB.out)) hb); clear BK442; clear HB; have BK442 := n0_; have HB := n1_; clear n0_ n1_; (try clear hb); (try clear hb2); (try clear hk); (try clear hi); have hcz20_0 : w19.cell? ⟨gb442, 0, none⟩ = some (.slice A0_0 l0_0.length c0_0) := (blk_cell BK442.out 0).trans rfl; have hcz20_1 : w19.cell? ⟨gb442, 1, none⟩ = some (.slice A0_1 l0_1.length c0_1) := (blk_cell BK442.out 1).trans rfl; have hfz20_0 := blk_frozen BK442.out 0; have hfz20_1 := blk_frozen BK442.out 1) | (go_at_call 22; (with_reducible refine (taliklaw03_asked.calls k _ _ l0_0 _ _ l0_1 _ _ l2 false _ ?side1 ?side2 ?side3 ?side4 ?side5 ?side6 A11.out).mono ?_); (case side1 => repeat (first | exact (Kd.C_below HR0_0.out HB.out) | (with_reducible refine Kd.C_alloc ?_ _) | (with_reducible refine Kd.C_drewN ?_ _) | (with_reducible refine Kd.C_drew ?_))); (case side2 => exact HC0_0.out); (case side3 => repeat (first | exact (Kd.C_below HR0_1.out HB.out) | (with_reducible refine Kd.C_alloc ?_ _) | (with_reducible refine Kd.C_drewN ?_ _) | (with_reducible refine Kd.C_drew ?_))); (case side4 => exact HC0_1.out); (case side5 => repeat (first | exact (Kd.C_below HR2.out HB.out) | (with_reducible refine Kd.C_alloc ?_ _) | (with_reducible refine Kd.C_drewN ?_ _) | (with_reducible refine Kd.C_drew ?_))); (case side6 => exact HC2.out); rintro e w21 ⟨rfl, hb⟩; have n0_ := Aside0.mk (blk_below (g := gb442) (o := .cells #[.slice A0_0 l0_0.length c0_0, .slice A0_1 l0_1.length c0_1] 25 (0, 0)) (by (with_reducible repeat (first | refine blk_drewN ?_ _ | refine blk_drew ?_ | refine blk_alloc ?_ _)); exact BK442.out) hb); have n1_ := Aside0.mk (below_step (by repeat (first | (with_reducible first | exact HB.out | apply below_alloc | apply pw_below_drewN | apply below_drew1 | refine below_set ?_ GE442.out) | exact HB.out)) hb); clear BK442; clear HB; have BK442 := n0_; have HB := n1_; clear n0_ n1_; (try clear hb); (try clear hb2); (try clear hk); (try clear hi)))
          go_meet
          case rel => exact ⟨_, (true), (by first | rfl | (simp; done) | (simp [*]; done)), H', ⟨by first | omega | exact Nat.le_refl _⟩, ⟨by (with_reducible repeat (first | refine blk_drewN ?_ _ | refine blk_drew ?_ | refine blk_alloc ?_ _)); exact BK442.out⟩, ⟨by repeat (first | (with_reducible first | exact HB.out | apply below_alloc | apply pw_below_drewN | apply below_drew1 | refine below_set ?_ GE442.out) | exact HB.out)⟩⟩
    · replace c7 := Bool.eq_false_iff.mpr c7
      subst c7
      have H1 : (taliklaw03_CoolRivals.j0 k a1 l2 true l0_0 l0_1) = some r := by rw [if_neg (show ¬ (false = true) by decide)] at H; exact H
      clear H
      have H := H1
      clear H1
      have H' := Aside0.mk H
      clear H
      have hcz22_0 : w5.cell? ⟨gb442, 0, none⟩ = some (.slice A0_0 l0_0.length c0_0) := (blk_cell BK442.out 0).trans rfl
      have hcz22_1 : w5.cell? ⟨gb442, 1, none⟩ = some (.slice A0_1 l0_1.length c0_1) := (blk_cell BK442.out 1).trans rfl
      have hfz22_0 := blk_frozen BK442.out 0
      have hfz22_1 := blk_frozen BK442.out 1
      go_wp2_with (first | ((with_reducible refine gate_callee (f := 12) rfl ?_); refine goesL_ (some 18) rfl rfl Try.func12 (by kernel_rfl) rfl #[.agg #[.slice A0_0 l0_0.length c0_0, .slice A0_1 l0_1.length c0_1]] rfl (by (try simp only [List.map_toArray, List.map_cons, List.map_nil]); first | done | rfl | (simp only [List.length_drop, List.length_take]; rfl)) ?_; (with_reducible refine (taliklaw03_short.calls k _ _ l0_0 _ _ l0_1 false _ ?side1 ?side2 ?side3 ?side4 A6.out).mono ?_); (case side1 => repeat (first | exact (Kd.C_below HR0_0.out HB.out) | (with_reducible refine Kd.C_alloc ?_ _) | (with_reducible refine Kd.C_drewN ?_ _) | (with_reducible refine Kd.C_drew ?_))); (case side2 => exact HC0_0.out); (case side3 => repeat (first | exact (Kd.C_below HR0_1.out HB.out) | (with_reducible refine Kd.C_alloc ?_ _) | (with_reducible refine Kd.C_drewN ?_ _) | (with_reducible refine Kd.C_drew ?_))); (case side4 => exact HC0_1.out); rintro e w23 ⟨rfl, hb⟩; refine ⟨_, rfl, ?_⟩; have n0_ := Aside0.mk (blk_below (g := gb442) (o := .cells #[.slice A0_0 l0_0.length c0_0, .slice A0_1 l0_1.length c0_1] 25 (0, 0)) (by (with_reducible repeat (first | refine blk_drewN ?_ _ | refine blk_drew ?_ | refine blk_alloc ?_ _)); exact BK442.out) hb); have n1_ := Aside0.mk (below_step (by repeat (first | (with_reducible first | exact HB.out | apply below_alloc | apply pw_below_drewN | apply below_drew1 | refine below_set ?_ GE442.out) | exact HB.out)) hb); clear BK442; clear HB; have BK442 := n0_; have HB := n1_; clear n0_ n1_; (try clear hb); (try clear hb2); (try clear hk); (try clear hi)))
      go_meet
      case rel => exact ⟨_, (true), (by first | rfl | (simp; done) | (simp [*]; done)), H', ⟨by first | omega | exact Nat.le_refl _⟩, ⟨by (with_reducible repeat (first | refine blk_drewN ?_ _ | refine blk_drew ?_ | refine blk_alloc ?_ _)); exact BK442.out⟩, ⟨by repeat (first | (with_reducible first | exact HB.out | apply below_alloc | apply pw_below_drewN | apply below_drew1 | refine below_set ?_ GE442.out) | exact HB.out)⟩⟩
  case rest =>
    clear HC4
    try clear c1
    try clear c2
    try clear p2
    try clear c4
    try clear c7
    try clear c8
    try clear c8b0
    try clear c8b1
    try clear c12
    try clear hcz14_0
    try clear hcz14_1
    try clear hcz16_0
    try clear hcz16_1
    try clear hcz18_0
    try clear hcz18_1
    try clear hcz20_0
    try clear hcz20_1
    try clear hcz22_0
    try clear hcz22_1
    try clear hcz9_0
    try clear hcz9_1
    try clear hfz14_0
    try clear hfz14_1
    try clear hfz16_0
    try clear hfz16_1
    try clear hfz18_0
    try clear hfz18_1
    try clear hfz20_0
    try clear hfz20_1
    try clear hfz22_0
    try clear hfz22_1
    try clear hfz9_0
    try clear hfz9_1
    obtain ⟨kq, x35_3, rfl, HA, HJ3, BK442, HB⟩ := hcut
    cases kq with
    | zero => exact absurd HA.out (by simp [taliklaw03_CoolRivals.j0])
    | succ kj3 =>
      have H := HA.out
      clear HA
      simp only [taliklaw03_CoolRivals.j0] at H
      by_cases c24 : x35_3 = true
      · subst c24
        have H1 : ((taliklaw03_known.f kj3).bind fun t446 => (some t446)) = some r := by rw [if_pos rfl] at H; exact H
        clear H
        have H := H1
        clear H1
        replace H := Option.bind_eq_some_iff.mp H
        obtain ⟨t446, A250, H⟩ := H
        replace H : (some t446) = some r := H
        have A25 := Aside0.mk A250
        clear A250
        obtain rfl := Option.some.inj H
        go_wp2_with (first | ((with_reducible refine gate_callee (f := 14) rfl ?_); refine goesL_ (some 36) rfl rfl Try.func14 (by kernel_rfl) rfl #[] rfl (by (try simp only [List.map_toArray, List.map_cons, List.map_nil]); first | done | rfl | (simp only [List.length_drop, List.length_take]; rfl)) ?_; (with_reducible refine (taliklaw03_known.calls kj3  t446 _ A25.out).mono ?_); rintro e w26 ⟨rfl, hb⟩; refine ⟨_, rfl, ?_⟩; have n0_ := Aside0.mk (blk_below (g := gb442) (o := .cells #[.slice A0_0 l0_0.length c0_0, .slice A0_1 l0_1.length c0_1] 25 (0, 0)) (by (with_reducible repeat (first | refine blk_drewN ?_ _ | refine blk_drew ?_ | refine blk_alloc ?_ _)); exact BK442.out) hb); have n1_ := Aside0.mk (below_step (by repeat (first | (with_reducible first | exact HB.out | apply below_alloc | apply pw_below_drewN | apply below_drew1 | refine below_set ?_ GE442.out) | exact HB.out)) hb); clear BK442; clear HB; have BK442 := n0_; have HB := n1_; clear n0_ n1_; (try clear hb); (try clear hb2); (try clear hk); (try clear hi)))
        go_ret
        exact ⟨by first | rfl | (simp [errW_none, errW_some] <;> rfl) | (simp [*, errW_none, errW_some] <;> rfl), by repeat (first | (with_reducible first | exact HB.out | apply below_alloc | apply pw_below_drewN | apply below_drew1 | refine below_set ?_ GE442.out) | exact HB.out)⟩
      · replace c24 := Bool.eq_false_iff.mpr c24
        subst c24
        have H1 : ((cool_Best.f l0_0 l0_1 a1).bind fun bt447 => ((cool_Floor.f l0_0 l0_1 a1).bind fun bt452 => ((cool_Keeps.f l0_0 l0_1 l2 a1).bind fun bt454 => (if bt454.2 = 0 then (if bt454.1 = true then (if bt452.2 = 0 then (if bt452.1 < 0 then (taliklaw03_CoolRivals.j1 kj3 a1 l2 bt447.1 bt447.2.1 bt447.2.2 bt452.1 bt452.2 bt454.1 true l0_0 l0_1) else (taliklaw03_CoolRivals.j1 kj3 a1 l2 bt447.1 bt447.2.1 bt447.2.2 bt452.1 bt452.2 bt454.1 (decide (bt452.1 > (l2.length : Int))) l0_0 l0_1)) else (taliklaw03_CoolRivals.j1 kj3 a1 l2 bt447.1 bt447.2.1 bt447.2.2 bt452.1 bt452.2 bt454.1 true l0_0 l0_1)) else (taliklaw03_CoolRivals.j1 kj3 a1 l2 bt447.1 bt447.2.1 bt447.2.2 bt452.1 bt452.2 bt454.1 false l0_0 l0_1)) else (taliklaw03_CoolRivals.j1 kj3 a1 l2 bt447.1 bt447.2.1 bt447.2.2 bt452.1 bt452.2 bt454.1 true l0_0 l0_1))))) = some r := by rw [if_neg (show ¬ (false = true) by decide)] at H; exact H
        clear H
        have H := H1
        clear H1
        replace H := Option.bind_eq_some_iff.mp H
        obtain ⟨⟨t447, t450, t451⟩, A270, H⟩ := H
        replace H : ((cool_Floor.f l0_0 l0_1 a1).bind fun bt452 => ((cool_Keeps.f l0_0 l0_1 l2 a1).bind fun bt454 => (if bt454.2 = 0 then (if bt454.1 = true then (if bt452.2 = 0 then (if bt452.1 < 0 then (taliklaw03_CoolRivals.j1 kj3 a1 l2 t447 t450 t451 bt452.1 bt452.2 bt454.1 true l0_0 l0_1) else (taliklaw03_CoolRivals.j1 kj3 a1 l2 t447 t450 t451 bt452.1 bt452.2 bt454.1 (decide (bt452.1 > (l2.length : Int))) l0_0 l0_1)) else (taliklaw03_CoolRivals.j1 kj3 a1 l2 t447 t450 t451 bt452.1 bt452.2 bt454.1 true l0_0 l0_1)) else (taliklaw03_CoolRivals.j1 kj3 a1 l2 t447 t450 t451 bt452.1 bt452.2 bt454.1 false l0_0 l0_1)) else (taliklaw03_CoolRivals.j1 kj3 a1 l2 t447 t450 t451 bt452.1 bt452.2 bt454.1 true l0_0 l0_1)))) = some r := H
        have A27 := Aside0.mk A270
        clear A270
        replace H := Option.bind_eq_some_iff.mp H
        obtain ⟨⟨t452, t453⟩, A280, H⟩ := H
        replace H : ((cool_Keeps.f l0_0 l0_1 l2 a1).bind fun bt454 => (if bt454.2 = 0 then (if bt454.1 = true then (if t453 = 0 then (if t452 < 0 then (taliklaw03_CoolRivals.j1 kj3 a1 l2 t447 t450 t451 t452 t453 bt454.1 true l0_0 l0_1) else (taliklaw03_CoolRivals.j1 kj3 a1 l2 t447 t450 t451 t452 t453 bt454.1 (decide (t452 > (l2.length : Int))) l0_0 l0_1)) else (taliklaw03_CoolRivals.j1 kj3 a1 l2 t447 t450 t451 t452 t453 bt454.1 true l0_0 l0_1)) else (taliklaw03_CoolRivals.j1 kj3 a1 l2 t447 t450 t451 t452 t453 bt454.1 false l0_0 l0_1)) else (taliklaw03_CoolRivals.j1 kj3 a1 l2 t447 t450 t451 t452 t453 bt454.1 true l0_0 l0_1))) = some r := H
        have A28 := Aside0.mk A280
        clear A280
        replace H := Option.bind_eq_some_iff.mp H
        obtain ⟨⟨t454, t455⟩, A290, H⟩ := H
        replace H : (if t455 = 0 then (if t454 = true then (if t453 = 0 then (if t452 < 0 then (taliklaw03_CoolRivals.j1 kj3 a1 l2 t447 t450 t451 t452 t453 t454 true l0_0 l0_1) else (taliklaw03_CoolRivals.j1 kj3 a1 l2 t447 t450 t451 t452 t453 t454 (decide (t452 > (l2.length : Int))) l0_0 l0_1)) else (taliklaw03_CoolRivals.j1 kj3 a1 l2 t447 t450 t451 t452 t453 t454 true l0_0 l0_1)) else (taliklaw03_CoolRivals.j1 kj3 a1 l2 t447 t450 t451 t452 t453 t454 false l0_0 l0_1)) else (taliklaw03_CoolRivals.j1 kj3 a1 l2 t447 t450 t451 t452 t453 t454 true l0_0 l0_1)) = some r := H
        have A29 := Aside0.mk A290
        clear A290
        have HC30 := Aside0.mk H
        clear H
        have hcz31_0 : wc.cell? ⟨gb442, 0, none⟩ = some (.slice A0_0 l0_0.length c0_0) := (blk_cell BK442.out 0).trans rfl
        have hcz31_1 : wc.cell? ⟨gb442, 1, none⟩ = some (.slice A0_1 l0_1.length c0_1) := (blk_cell BK442.out 1).trans rfl
        have hfz31_0 := blk_frozen BK442.out 0
        have hfz31_1 := blk_frozen BK442.out 1
        go_upto_region 6 with (first | ((with_reducible refine gate_callee (f := 15) rfl ?_); refine goesL_ (some 40) rfl rfl Try.func15 (by kernel_rfl) rfl #[.agg #[.slice A0_0 l0_0.length c0_0, .slice A0_1 l0_1.length c0_1], .int .i64 a1] rfl (by (try simp only [List.map_toArray, List.map_cons, List.map_nil]); first | done | rfl | (simp only [List.length_drop, List.length_take]; rfl)) ?_; (with_reducible refine (cool_Best.calls _ _ l0_0 _ _ l0_1 a1 t447 t450 t451 _ ?side1 ?side2 ?side3 ?side4 A27.out).mono ?_); (case side1 => repeat (first | exact (Kd.C_below HR0_0.out HB.out) | (with_reducible refine Kd.C_alloc ?_ _) | (with_reducible refine Kd.C_drewN ?_ _) | (with_reducible refine Kd.C_drew ?_))); (case side2 => exact HC0_0.out); (case side3 => repeat (first | exact (Kd.C_below HR0_1.out HB.out) | (with_reducible refine Kd.C_alloc ?_ _) | (with_reducible refine Kd.C_drewN ?_ _) | (with_reducible refine Kd.C_drew ?_))); (case side4 => exact HC0_1.out); rintro e w32 ⟨v448, rfl, ho0, hb⟩; refine ⟨_, rfl, ?_⟩; have n0_ := Aside0.mk (Kd.R_lower ho0 (below_size (by repeat (first | (with_reducible first | exact HB.out | apply below_alloc | apply pw_below_drewN | apply below_drew1 | refine below_set ?_ GE442.out) | exact HB.out)))); have n1_ := Aside0.mk (blk_below (g := gb442) (o := .cells #[.slice A0_0 l0_0.length c0_0, .slice A0_1 l0_1.length c0_1] 25 (0, 0)) (by (with_reducible repeat (first | refine blk_drewN ?_ _ | refine blk_drew ?_ | refine blk_alloc ?_ _)); exact BK442.out) hb); have n2_ := Aside0.mk (below_step (by repeat (first | (with_reducible first | exact HB.out | apply below_alloc | apply pw_below_drewN | apply below_drew1 | refine below_set ?_ GE442.out) | exact HB.out)) hb); clear BK442; clear HB; have HO449 := n0_; have BK442 := n1_; have HB := n2_; clear n0_ n1_ n2_; (try clear hb); (try clear hb2); (try clear hk); (try clear hi); (try clear ho0); have hcz33_0 : w32.cell? ⟨gb442, 0, none⟩ = some (.slice A0_0 l0_0.length c0_0) := (blk_cell BK442.out 0).trans rfl; have hcz33_1 : w32.cell? ⟨gb442, 1, none⟩ = some (.slice A0_1 l0_1.length c0_1) := (blk_cell BK442.out 1).trans rfl; have hfz33_0 := blk_frozen BK442.out 0; have hfz33_1 := blk_frozen BK442.out 1) | ((with_reducible refine gate_callee (f := 16) rfl ?_); refine goesL_ (some 47) rfl rfl Try.func16 (by kernel_rfl) rfl #[.agg #[.slice A0_0 l0_0.length c0_0, .slice A0_1 l0_1.length c0_1], .int .i64 a1] rfl (by (try simp only [List.map_toArray, List.map_cons, List.map_nil]); first | done | rfl | (simp only [List.length_drop, List.length_take]; rfl)) ?_; (with_reducible refine (cool_Floor.calls _ _ l0_0 _ _ l0_1 a1 t452 t453 _ ?side1 ?side2 ?side3 ?side4 A28.out).mono ?_); (case side1 => repeat (first | exact (Kd.C_below HR0_0.out HB.out) | (with_reducible refine Kd.C_alloc ?_ _) | (with_reducible refine Kd.C_drewN ?_ _) | (with_reducible refine Kd.C_drew ?_))); (case side2 => exact HC0_0.out); (case side3 => repeat (first | exact (Kd.C_below HR0_1.out HB.out) | (with_reducible refine Kd.C_alloc ?_ _) | (with_reducible refine Kd.C_drewN ?_ _) | (with_reducible refine Kd.C_drew ?_))); (case side4 => exact HC0_1.out); rintro e w34 ⟨rfl, hb⟩; refine ⟨_, rfl, ?_⟩; have n0_ := Aside0.mk (Kd.R_below (by (with_reducible repeat (first | apply Kd.R_alloc | apply Kd.R_drewN | apply Kd.R_drew)); exact HO449.out) hb); have n1_ := Aside0.mk (blk_below (g := gb442) (o := .cells #[.slice A0_0 l0_0.length c0_0, .slice A0_1 l0_1.length c0_1] 25 (0, 0)) (by (with_reducible repeat (first | refine blk_drewN ?_ _ | refine blk_drew ?_ | refine blk_alloc ?_ _)); exact BK442.out) hb); have n2_ := Aside0.mk (below_step (by repeat (first | (with_reducible first | exact HB.out | apply below_alloc | apply pw_below_drewN | apply below_drew1 | refine below_set ?_ GE442.out) | exact HB.out)) hb); clear HO449; clear BK442; clear HB; have HO449 := n0_; have BK442 := n1_; have HB := n2_; clear n0_ n1_ n2_; (try clear hb); (try clear hb2); (try clear hk); (try clear hi); have hcz35_0 : w34.cell? ⟨gb442, 0, none⟩ = some (.slice A0_0 l0_0.length c0_0) := (blk_cell BK442.out 0).trans rfl; have hcz35_1 : w34.cell? ⟨gb442, 1, none⟩ = some (.slice A0_1 l0_1.length c0_1) := (blk_cell BK442.out 1).trans rfl; have hfz35_0 := blk_frozen BK442.out 0; have hfz35_1 := blk_frozen BK442.out 1) | ((with_reducible refine gate_callee (f := 23) rfl ?_); refine goesL_ (some 54) rfl rfl Try.func23 (by kernel_rfl) rfl #[.agg #[.slice A0_0 l0_0.length c0_0, .slice A0_1 l0_1.length c0_1], .slice A2 l2.length c2, .int .i64 a1] rfl (by (try simp only [List.map_toArray, List.map_cons, List.map_nil]); first | done | rfl | (simp only [List.length_drop, List.length_take]; rfl)) ?_; (with_reducible refine (cool_Keeps.calls _ _ l0_0 _ _ l0_1 _ _ l2 a1 t454 t455 _ ?side1 ?side2 ?side3 ?side4 ?side5 ?side6 A29.out).mono ?_); (case side1 => repeat (first | exact (Kd.C_below HR0_0.out HB.out) | (with_reducible refine Kd.C_alloc ?_ _) | (with_reducible refine Kd.C_drewN ?_ _) | (with_reducible refine Kd.C_drew ?_))); (case side2 => exact HC0_0.out); (case side3 => repeat (first | exact (Kd.C_below HR0_1.out HB.out) | (with_reducible refine Kd.C_alloc ?_ _) | (with_reducible refine Kd.C_drewN ?_ _) | (with_reducible refine Kd.C_drew ?_))); (case side4 => exact HC0_1.out); (case side5 => repeat (first | exact (Kd.C_below HR2.out HB.out) | (with_reducible refine Kd.C_alloc ?_ _) | (with_reducible refine Kd.C_drewN ?_ _) | (with_reducible refine Kd.C_drew ?_))); (case side6 => exact HC2.out); rintro e w36 ⟨rfl, hb⟩; refine ⟨_, rfl, ?_⟩; have n0_ := Aside0.mk (Kd.R_below (by (with_reducible repeat (first | apply Kd.R_alloc | apply Kd.R_drewN | apply Kd.R_drew)); exact HO449.out) hb); have n1_ := Aside0.mk (blk_below (g := gb442) (o := .cells #[.slice A0_0 l0_0.length c0_0, .slice A0_1 l0_1.length c0_1] 25 (0, 0)) (by (with_reducible repeat (first | refine blk_drewN ?_ _ | refine blk_drew ?_ | refine blk_alloc ?_ _)); exact BK442.out) hb); have n2_ := Aside0.mk (below_step (by repeat (first | (with_reducible first | exact HB.out | apply below_alloc | apply pw_below_drewN | apply below_drew1 | refine below_set ?_ GE442.out) | exact HB.out)) hb); clear HO449; clear BK442; clear HB; have HO449 := n0_; have BK442 := n1_; have HB := n2_; clear n0_ n1_ n2_; (try clear hb); (try clear hb2); (try clear hk); (try clear hi)))
        (try simp only [Act.put, List.setIfInBounds_toArray, List.set_cons_zero, List.set_cons_succ])
        go_cut [75] (fun v75 wc => ∃ (kq : Nat) (x75_29 : Bool), v75 = .bool x75_29 ∧ Aside0 (taliklaw03_CoolRivals.j1 kq a1 l2 t447 t450 t451 t452 t453 t454 x75_29 l0_0 l0_1 = some r) ∧ Aside0 (kq ≤ kj3) ∧ Aside0 (Kd.R (Kd.int .i64) 3 wc w.heap.size (fun _ => True) v448 t447) ∧ Aside0 (wc.heap[gb442]? = some (.cells #[(.slice A0_0 l0_0.length c0_0), (.slice A0_1 l0_1.length c0_1)] 25 (0, 0))) ∧ Aside0 (Below w.heap.size w wc))
        case first =>
          have H := HC30.out
          clear HC30
          by_cases c37 : t455 = 0
          · rw [if_pos c37] at H
            have c37b0 : (t455 == 0) = true := beq_iff_eq.mpr c37
            have c37b1 : (t455 != 0) = false := bne_eq_false_iff_eq.mpr c37
            clear c37
            (first | rw [c37b0] | (simp only [i64_w, i32_w]; rw [c37b0]) | skip)
            by_cases c38 : t454 = true
            · subst c38
              have H1 : (if t453 = 0 then (if t452 < 0 then (taliklaw03_CoolRivals.j1 kj3 a1 l2 t447 t450 t451 t452 t453 true true l0_0 l0_1) else (taliklaw03_CoolRivals.j1 kj3 a1 l2 t447 t450 t451 t452 t453 true (decide (t452 > (l2.length : Int))) l0_0 l0_1)) else (taliklaw03_CoolRivals.j1 kj3 a1 l2 t447 t450 t451 t452 t453 true true l0_0 l0_1)) = some r := by rw [if_pos rfl] at H; exact H
              clear H
              have H := H1
              clear H1
              by_cases c39 : t453 = 0
              · rw [if_pos c39] at H
                have c39b0 : (t453 == 0) = true := beq_iff_eq.mpr c39
                have c39b1 : (t453 != 0) = false := bne_eq_false_iff_eq.mpr c39
                clear c39
                by_cases c40 : t452 < 0
                · rw [if_pos c40] at H
                  have c40b0 : decide (t452 < 0) = true := decide_eq_true c40
                  clear c40
                  have H' := Aside0.mk H
                  clear H
                  go_wp2
                  go_meet
                  case rel => exact ⟨_, (true), (by first | rfl | (simp; done) | (simp [*]; done)), H', ⟨by have := HJ3.out; first | omega | exact Nat.le_refl _⟩, ⟨by (with_reducible repeat (first | apply Kd.R_alloc | apply Kd.R_drewN | apply Kd.R_drew)); exact HO449.out⟩, ⟨by (with_reducible repeat (first | refine blk_drewN ?_ _ | refine blk_drew ?_ | refine blk_alloc ?_ _)); exact BK442.out⟩, ⟨by repeat (first | (with_reducible first | exact HB.out | apply below_alloc | apply pw_below_drewN | apply below_drew1 | refine below_set ?_ GE442.out) | exact HB.out)⟩⟩
                · rw [if_neg c40] at H
                  have c40b0 : decide (t452 < 0) = false := decide_eq_false c40
                  clear c40
                  have H' := Aside0.mk H
                  clear H
                  go_wp2
                  go_meet
                  case rel => exact ⟨_, (decide (t452 > (l2.length : Int))), (by first | rfl | (simp; done) | (simp [*]; done)), H', ⟨by have := HJ3.out; first | omega | exact Nat.le_refl _⟩, ⟨by (with_reducible repeat (first | apply Kd.R_alloc | apply Kd.R_drewN | apply Kd.R_drew)); exact HO449.out⟩, ⟨by (with_reducible repeat (first | refine blk_drewN ?_ _ | refine blk_drew ?_ | refine blk_alloc ?_ _)); exact BK442.out⟩, ⟨by repeat (first | (with_reducible first | exact HB.out | apply below_alloc | apply pw_below_drewN | apply below_drew1 | refine below_set ?_ GE442.out) | exact HB.out)⟩⟩
              · rw [if_neg c39] at H
                have c39b0 : (t453 == 0) = false := beq_eq_false_iff_ne.mpr c39
                have c39b1 : (t453 != 0) = true := bne_iff_ne.mpr c39
                have H' := Aside0.mk H
                clear H
                go_wp2
                go_meet
                case rel => exact ⟨_, (true), (by first | rfl | (simp; done) | (simp [*]; done)), H', ⟨by have := HJ3.out; first | omega | exact Nat.le_refl _⟩, ⟨by (with_reducible repeat (first | apply Kd.R_alloc | apply Kd.R_drewN | apply Kd.R_drew)); exact HO449.out⟩, ⟨by (with_reducible repeat (first | refine blk_drewN ?_ _ | refine blk_drew ?_ | refine blk_alloc ?_ _)); exact BK442.out⟩, ⟨by repeat (first | (with_reducible first | exact HB.out | apply below_alloc | apply pw_below_drewN | apply below_drew1 | refine below_set ?_ GE442.out) | exact HB.out)⟩⟩
            · replace c38 := Bool.eq_false_iff.mpr c38
              subst c38
              have H1 : (taliklaw03_CoolRivals.j1 kj3 a1 l2 t447 t450 t451 t452 t453 false false l0_0 l0_1) = some r := by rw [if_neg (show ¬ (false = true) by decide)] at H; exact H
              clear H
              have H := H1
              clear H1
              have H' := Aside0.mk H
              clear H
              go_wp2
              go_meet
              case rel => exact ⟨_, (false), (by first | rfl | (simp; done) | (simp [*]; done)), H', ⟨by have := HJ3.out; first | omega | exact Nat.le_refl _⟩, ⟨by (with_reducible repeat (first | apply Kd.R_alloc | apply Kd.R_drewN | apply Kd.R_drew)); exact HO449.out⟩, ⟨by (with_reducible repeat (first | refine blk_drewN ?_ _ | refine blk_drew ?_ | refine blk_alloc ?_ _)); exact BK442.out⟩, ⟨by repeat (first | (with_reducible first | exact HB.out | apply below_alloc | apply pw_below_drewN | apply below_drew1 | refine below_set ?_ GE442.out) | exact HB.out)⟩⟩
          · rw [if_neg c37] at H
            have c37b0 : (t455 == 0) = false := beq_eq_false_iff_ne.mpr c37
            have c37b1 : (t455 != 0) = true := bne_iff_ne.mpr c37
            (first | rw [c37b0] | (simp only [i64_w, i32_w]; rw [c37b0]) | skip)
            have H' := Aside0.mk H
            clear H
            go_wp2
            go_meet
            case rel => exact ⟨_, (true), (by first | rfl | (simp; done) | (simp [*]; done)), H', ⟨by have := HJ3.out; first | omega | exact Nat.le_refl _⟩, ⟨by (with_reducible repeat (first | apply Kd.R_alloc | apply Kd.R_drewN | apply Kd.R_drew)); exact HO449.out⟩, ⟨by (with_reducible repeat (first | refine blk_drewN ?_ _ | refine blk_drew ?_ | refine blk_alloc ?_ _)); exact BK442.out⟩, ⟨by repeat (first | (with_reducible first | exact HB.out | apply below_alloc | apply pw_below_drewN | apply below_drew1 | refine below_set ?_ GE442.out) | exact HB.out)⟩⟩
        case rest =>
          clear HC30
          try clear c1
          try clear c2
          try clear p2
          try clear c3
          try clear c4
          try clear c7
          try clear c8
          try clear c8b0
          try clear c8b1
          try clear c12
          try clear c14
          try clear c15
          try clear c16
          try clear c23
          try clear c24
          try clear c37
          try clear c37b0
          try clear c37b1
          try clear c38
          try clear c39
          try clear c39b0
          try clear c39b1
          try clear c40
          try clear c40b0
          try clear hcz14_0
          try clear hcz14_1
          try clear hcz16_0
          try clear hcz16_1
          try clear hcz18_0
          try clear hcz18_1
          try clear hcz20_0
          try clear hcz20_1
          try clear hcz22_0
          try clear hcz22_1
          try clear hcz31_0
          try clear hcz31_1
          try clear hcz33_0
          try clear hcz33_1
          try clear hcz35_0
          try clear hcz35_1
          try clear hcz9_0
          try clear hcz9_1
          try clear hfz14_0
          try clear hfz14_1
          try clear hfz16_0
          try clear hfz16_1
          try clear hfz18_0
          try clear hfz18_1
          try clear hfz20_0
          try clear hfz20_1
          try clear hfz22_0
          try clear hfz22_1
          try clear hfz31_0
          try clear hfz31_1
          try clear hfz33_0
          try clear hfz33_1
          try clear hfz35_0
          try clear hfz35_1
          try clear hfz9_0
          try clear hfz9_1
          try clear p2
          obtain ⟨kq, x75_29, rfl, HA, HJ29, HO_7, BK442, HB⟩ := hcut
          cases kq with
          | zero => exact absurd HA.out (by simp [taliklaw03_CoolRivals.j1])
          | succ kj29 =>
            have H := HA.out
            clear HA
            simp only [taliklaw03_CoolRivals.j1] at H
            by_cases c41 : x75_29 = true
            · subst c41
              have H1 : (some false) = some r := by rw [if_pos rfl] at H; exact H
              clear H
              have H := H1
              clear H1
              obtain rfl := Option.some.inj H
              go_wp2
              go_ret
              exact ⟨by first | rfl | (simp [errW_none, errW_some] <;> rfl) | (simp [*, errW_none, errW_some] <;> rfl), by repeat (first | (with_reducible first | exact HB.out | apply below_alloc | apply pw_below_drewN | apply below_drew1 | refine below_set ?_ GE442.out) | exact HB.out)⟩
            · replace c41 := Bool.eq_false_iff.mpr c41
              subst c41
              have H1 : (if t451 = 0 then ((talikref03_Coolers.f kj29 l0_0 l0_1 t447).bind fun t457 => (if t457 = true then ((talikref03_Cost.f kj29 l0_0 l0_1 t447).bind fun t458 => (if t450 = t458 then (if t453 = 0 then (taliklaw03_CoolRivals.j2 kj29 a1 l2 t447 t450 t454 (decide (t452 > (t447.length : Int))) l0_0 l0_1) else (taliklaw03_CoolRivals.j2 kj29 a1 l2 t447 t450 t454 true l0_0 l0_1)) else (taliklaw03_CoolRivals.j2 kj29 a1 l2 t447 t450 t454 true l0_0 l0_1))) else (taliklaw03_CoolRivals.j2 kj29 a1 l2 t447 t450 t454 true l0_0 l0_1))) else (if t451 = 5 then (if t454 = true then (some false) else ((taliklaw03_known.f kj29).bind fun t456 => (some t456))) else (some false))) = some r := by rw [if_neg (show ¬ (false = true) by decide)] at H; exact H
              clear H
              have H := H1
              clear H1
              by_cases c42 : t451 = 0
              · rw [if_pos c42] at H
                have c42b0 : (t451 == 0) = true := beq_iff_eq.mpr c42
                have c42b1 : (t451 != 0) = false := bne_eq_false_iff_eq.mpr c42
                clear c42
                have HC43 := Aside0.mk H
                clear H
                go_upto_region 10 with (fail)
                go_cut [107] (fun v107 wc => ∃ (kq : Nat) (x107_42 : Bool), v107 = .bool x107_42 ∧ Aside0 (taliklaw03_CoolRivals.j2 kq a1 l2 t447 t450 t454 x107_42 l0_0 l0_1 = some r) ∧ Aside0 (kq ≤ kj29) ∧ Aside0 (Kd.R (Kd.int .i64) 3 wc w.heap.size (fun _ => True) v448 t447) ∧ Aside0 (wc.heap[gb442]? = some (.cells #[(.slice A0_0 l0_0.length c0_0), (.slice A0_1 l0_1.length c0_1)] 25 (0, 0))) ∧ Aside0 (Below w.heap.size w wc))
                case first =>
                  have H := HC43.out
                  clear HC43
                  replace H := Option.bind_eq_some_iff.mp H
                  obtain ⟨t457, A440, H⟩ := H
                  replace H : (if t457 = true then ((talikref03_Cost.f kj29 l0_0 l0_1 t447).bind fun t458 => (if t450 = t458 then (if t453 = 0 then (taliklaw03_CoolRivals.j2 kj29 a1 l2 t447 t450 t454 (decide (t452 > (t447.length : Int))) l0_0 l0_1) else (taliklaw03_CoolRivals.j2 kj29 a1 l2 t447 t450 t454 true l0_0 l0_1)) else (taliklaw03_CoolRivals.j2 kj29 a1 l2 t447 t450 t454 true l0_0 l0_1))) else (taliklaw03_CoolRivals.j2 kj29 a1 l2 t447 t450 t454 true l0_0 l0_1)) = some r := H
                  have A44 := Aside0.mk A440
                  clear A440
                  by_cases c45 : t457 = true
                  · subst c45
                    have H1 : ((talikref03_Cost.f kj29 l0_0 l0_1 t447).bind fun t458 => (if t450 = t458 then (if t453 = 0 then (taliklaw03_CoolRivals.j2 kj29 a1 l2 t447 t450 t454 (decide (t452 > (t447.length : Int))) l0_0 l0_1) else (taliklaw03_CoolRivals.j2 kj29 a1 l2 t447 t450 t454 true l0_0 l0_1)) else (taliklaw03_CoolRivals.j2 kj29 a1 l2 t447 t450 t454 true l0_0 l0_1))) = some r := by rw [if_pos rfl] at H; exact H
                    clear H
                    have H := H1
                    clear H1
                    replace H := Option.bind_eq_some_iff.mp H
                    obtain ⟨t458, A460, H⟩ := H
                    replace H : (if t450 = t458 then (if t453 = 0 then (taliklaw03_CoolRivals.j2 kj29 a1 l2 t447 t450 t454 (decide (t452 > (t447.length : Int))) l0_0 l0_1) else (taliklaw03_CoolRivals.j2 kj29 a1 l2 t447 t450 t454 true l0_0 l0_1)) else (taliklaw03_CoolRivals.j2 kj29 a1 l2 t447 t450 t454 true l0_0 l0_1)) = some r := H
                    have A46 := Aside0.mk A460
                    clear A460
                    by_cases c47 : t450 = t458
                    · rw [if_pos c47] at H
                      have c47b0 : (t450 == t458) = true := beq_iff_eq.mpr c47
                      have c47b1 : (t450 != t458) = false := bne_eq_false_iff_eq.mpr c47
                      clear c47
                      (first | rw [c47b0] | (simp only [i64_w, i32_w]; rw [c47b0]) | skip)
                      by_cases c48 : t453 = 0
                      · rw [if_pos c48] at H
                        have c48b0 : (t453 == 0) = true := beq_iff_eq.mpr c48
                        have c48b1 : (t453 != 0) = false := bne_eq_false_iff_eq.mpr c48
                        clear c48
                        have H' := Aside0.mk H
                        clear H
                        have hcz49_0 : wc.cell? ⟨gb442, 0, none⟩ = some (.slice A0_0 l0_0.length c0_0) := (blk_cell BK442.out 0).trans rfl
                        have hcz49_1 : wc.cell? ⟨gb442, 1, none⟩ = some (.slice A0_1 l0_1.length c0_1) := (blk_cell BK442.out 1).trans rfl
                        have hfz49_0 := blk_frozen BK442.out 0
                        have hfz49_1 := blk_frozen BK442.out 1
                        obtain ⟨Ao50, co50, eo50⟩ := Kd.R_slice HO_7.out
                        subst eo50
                        go_wp2_with (first | ((with_reducible refine gate_callee (f := 24) rfl ?_); refine goesL_ (some 89) rfl rfl Try.func24 (by kernel_rfl) rfl #[.agg #[.slice A0_0 l0_0.length c0_0, .slice A0_1 l0_1.length c0_1], .slice Ao50 t447.length co50] rfl (by (try simp only [List.map_toArray, List.map_cons, List.map_nil]); first | done | rfl | (simp only [List.length_drop, List.length_take]; rfl)) ?_; (with_reducible refine (talikref03_Coolers.calls kj29 _ _ l0_0 _ _ l0_1 _ _ t447 true _ ?side1 ?side2 ?side3 ?side4 ?side5 ?side6 A44.out).mono ?_); (case side1 => repeat (first | exact (Kd.C_below HR0_0.out HB.out) | (with_reducible refine Kd.C_alloc ?_ _) | (with_reducible refine Kd.C_drewN ?_ _) | (with_reducible refine Kd.C_drew ?_))); (case side2 => exact HC0_0.out); (case side3 => repeat (first | exact (Kd.C_below HR0_1.out HB.out) | (with_reducible refine Kd.C_alloc ?_ _) | (with_reducible refine Kd.C_drewN ?_ _) | (with_reducible refine Kd.C_drew ?_))); (case side4 => exact HC0_1.out); (case side5 => repeat (first | exact (Kd.R_reads' HO_7.out).2.2 | (with_reducible refine Kd.C_alloc ?_ _) | (with_reducible refine Kd.C_drewN ?_ _) | (with_reducible refine Kd.C_drew ?_))); (case side6 => exact (Kd.R_reads' HO_7.out).2.1); rintro e w51 ⟨rfl, hb⟩; refine ⟨_, rfl, ?_⟩; have n0_ := Aside0.mk (Kd.R_below (by (with_reducible repeat (first | apply Kd.R_alloc | apply Kd.R_drewN | apply Kd.R_drew)); exact HO_7.out) hb); have n1_ := Aside0.mk (blk_below (g := gb442) (o := .cells #[.slice A0_0 l0_0.length c0_0, .slice A0_1 l0_1.length c0_1] 25 (0, 0)) (by (with_reducible repeat (first | refine blk_drewN ?_ _ | refine blk_drew ?_ | refine blk_alloc ?_ _)); exact BK442.out) hb); have n2_ := Aside0.mk (below_step (by repeat (first | (with_reducible first | exact HB.out | apply below_alloc | apply pw_below_drewN | apply below_drew1 | refine below_set ?_ GE442.out) | exact HB.out)) hb); clear HO_7; clear BK442; clear HB; have HO_7 := n0_; have BK442 := n1_; have HB := n2_; clear n0_ n1_ n2_; (try clear hb); (try clear hb2); (try clear hk); (try clear hi); have hcz52_0 : w51.cell? ⟨gb442, 0, none⟩ = some (.slice A0_0 l0_0.length c0_0) := (blk_cell BK442.out 0).trans rfl; have hcz52_1 : w51.cell? ⟨gb442, 1, none⟩ = some (.slice A0_1 l0_1.length c0_1) := (blk_cell BK442.out 1).trans rfl; have hfz52_0 := blk_frozen BK442.out 0; have hfz52_1 := blk_frozen BK442.out 1) | (go_at_call 21; (with_reducible refine (talikref03_Cost.calls kj29 _ _ l0_0 _ _ l0_1 _ _ t447 t458 _ ?side1 ?side2 ?side3 ?side4 ?side5 ?side6 A46.out).mono ?_); (case side1 => repeat (first | exact (Kd.C_below HR0_0.out HB.out) | (with_reducible refine Kd.C_alloc ?_ _) | (with_reducible refine Kd.C_drewN ?_ _) | (with_reducible refine Kd.C_drew ?_))); (case side2 => exact HC0_0.out); (case side3 => repeat (first | exact (Kd.C_below HR0_1.out HB.out) | (with_reducible refine Kd.C_alloc ?_ _) | (with_reducible refine Kd.C_drewN ?_ _) | (with_reducible refine Kd.C_drew ?_))); (case side4 => exact HC0_1.out); (case side5 => repeat (first | exact (Kd.R_reads' HO_7.out).2.2 | (with_reducible refine Kd.C_alloc ?_ _) | (with_reducible refine Kd.C_drewN ?_ _) | (with_reducible refine Kd.C_drew ?_))); (case side6 => exact (Kd.R_reads' HO_7.out).2.1); rintro e w53 ⟨rfl, hb⟩; have n0_ := Aside0.mk (Kd.R_below (by (with_reducible repeat (first | apply Kd.R_alloc | apply Kd.R_drewN | apply Kd.R_drew)); exact HO_7.out) hb); have n1_ := Aside0.mk (blk_below (g := gb442) (o := .cells #[.slice A0_0 l0_0.length c0_0, .slice A0_1 l0_1.length c0_1] 25 (0, 0)) (by (with_reducible repeat (first | refine blk_drewN ?_ _ | refine blk_drew ?_ | refine blk_alloc ?_ _)); exact BK442.out) hb); have n2_ := Aside0.mk (below_step (by repeat (first | (with_reducible first | exact HB.out | apply below_alloc | apply pw_below_drewN | apply below_drew1 | refine below_set ?_ GE442.out) | exact HB.out)) hb); clear HO_7; clear BK442; clear HB; have HO_7 := n0_; have BK442 := n1_; have HB := n2_; clear n0_ n1_ n2_; (try clear hb); (try clear hb2); (try clear hk); (try clear hi)))
                        go_meet
                        case rel => exact ⟨_, (decide (t452 > (t447.length : Int))), (by first | rfl | (simp; done) | (simp [*]; done)), H', ⟨by have := HJ3.out; have := HJ29.out; first | omega | exact Nat.le_refl _⟩, ⟨by (with_reducible repeat (first | apply Kd.R_alloc | apply Kd.R_drewN | apply Kd.R_drew)); exact HO_7.out⟩, ⟨by (with_reducible repeat (first | refine blk_drewN ?_ _ | refine blk_drew ?_ | refine blk_alloc ?_ _)); exact BK442.out⟩, ⟨by repeat (first | (with_reducible first | exact HB.out | apply below_alloc | apply pw_below_drewN | apply below_drew1 | refine below_set ?_ GE442.out) | exact HB.out)⟩⟩
                      · rw [if_neg c48] at H
                        have c48b0 : (t453 == 0) = false := beq_eq_false_iff_ne.mpr c48
                        have c48b1 : (t453 != 0) = true := bne_iff_ne.mpr c48
                        have H' := Aside0.mk H
                        clear H
                        have hcz54_0 : wc.cell? ⟨gb442, 0, none⟩ = some (.slice A0_0 l0_0.length c0_0) := (blk_cell BK442.out 0).trans rfl
                        have hcz54_1 : wc.cell? ⟨gb442, 1, none⟩ = some (.slice A0_1 l0_1.length c0_1) := (blk_cell BK442.out 1).trans rfl
                        have hfz54_0 := blk_frozen BK442.out 0
                        have hfz54_1 := blk_frozen BK442.out 1
                        obtain ⟨Ao55, co55, eo55⟩ := Kd.R_slice HO_7.out
                        subst eo55
                        go_wp2_with (first | ((with_reducible refine gate_callee (f := 24) rfl ?_); refine goesL_ (some 89) rfl rfl Try.func24 (by kernel_rfl) rfl #[.agg #[.slice A0_0 l0_0.length c0_0, .slice A0_1 l0_1.length c0_1], .slice Ao55 t447.length co55] rfl (by (try simp only [List.map_toArray, List.map_cons, List.map_nil]); first | done | rfl | (simp only [List.length_drop, List.length_take]; rfl)) ?_; (with_reducible refine (talikref03_Coolers.calls kj29 _ _ l0_0 _ _ l0_1 _ _ t447 true _ ?side1 ?side2 ?side3 ?side4 ?side5 ?side6 A44.out).mono ?_); (case side1 => repeat (first | exact (Kd.C_below HR0_0.out HB.out) | (with_reducible refine Kd.C_alloc ?_ _) | (with_reducible refine Kd.C_drewN ?_ _) | (with_reducible refine Kd.C_drew ?_))); (case side2 => exact HC0_0.out); (case side3 => repeat (first | exact (Kd.C_below HR0_1.out HB.out) | (with_reducible refine Kd.C_alloc ?_ _) | (with_reducible refine Kd.C_drewN ?_ _) | (with_reducible refine Kd.C_drew ?_))); (case side4 => exact HC0_1.out); (case side5 => repeat (first | exact (Kd.R_reads' HO_7.out).2.2 | (with_reducible refine Kd.C_alloc ?_ _) | (with_reducible refine Kd.C_drewN ?_ _) | (with_reducible refine Kd.C_drew ?_))); (case side6 => exact (Kd.R_reads' HO_7.out).2.1); rintro e w56 ⟨rfl, hb⟩; refine ⟨_, rfl, ?_⟩; have n0_ := Aside0.mk (Kd.R_below (by (with_reducible repeat (first | apply Kd.R_alloc | apply Kd.R_drewN | apply Kd.R_drew)); exact HO_7.out) hb); have n1_ := Aside0.mk (blk_below (g := gb442) (o := .cells #[.slice A0_0 l0_0.length c0_0, .slice A0_1 l0_1.length c0_1] 25 (0, 0)) (by (with_reducible repeat (first | refine blk_drewN ?_ _ | refine blk_drew ?_ | refine blk_alloc ?_ _)); exact BK442.out) hb); have n2_ := Aside0.mk (below_step (by repeat (first | (with_reducible first | exact HB.out | apply below_alloc | apply pw_below_drewN | apply below_drew1 | refine below_set ?_ GE442.out) | exact HB.out)) hb); clear HO_7; clear BK442; clear HB; have HO_7 := n0_; have BK442 := n1_; have HB := n2_; clear n0_ n1_ n2_; (try clear hb); (try clear hb2); (try clear hk); (try clear hi); have hcz57_0 : w56.cell? ⟨gb442, 0, none⟩ = some (.slice A0_0 l0_0.length c0_0) := (blk_cell BK442.out 0).trans rfl; have hcz57_1 : w56.cell? ⟨gb442, 1, none⟩ = some (.slice A0_1 l0_1.length c0_1) := (blk_cell BK442.out 1).trans rfl; have hfz57_0 := blk_frozen BK442.out 0; have hfz57_1 := blk_frozen BK442.out 1) | (go_at_call 21; (with_reducible refine (talikref03_Cost.calls kj29 _ _ l0_0 _ _ l0_1 _ _ t447 t458 _ ?side1 ?side2 ?side3 ?side4 ?side5 ?side6 A46.out).mono ?_); (case side1 => repeat (first | exact (Kd.C_below HR0_0.out HB.out) | (with_reducible refine Kd.C_alloc ?_ _) | (with_reducible refine Kd.C_drewN ?_ _) | (with_reducible refine Kd.C_drew ?_))); (case side2 => exact HC0_0.out); (case side3 => repeat (first | exact (Kd.C_below HR0_1.out HB.out) | (with_reducible refine Kd.C_alloc ?_ _) | (with_reducible refine Kd.C_drewN ?_ _) | (with_reducible refine Kd.C_drew ?_))); (case side4 => exact HC0_1.out); (case side5 => repeat (first | exact (Kd.R_reads' HO_7.out).2.2 | (with_reducible refine Kd.C_alloc ?_ _) | (with_reducible refine Kd.C_drewN ?_ _) | (with_reducible refine Kd.C_drew ?_))); (case side6 => exact (Kd.R_reads' HO_7.out).2.1); rintro e w58 ⟨rfl, hb⟩; have n0_ := Aside0.mk (Kd.R_below (by (with_reducible repeat (first | apply Kd.R_alloc | apply Kd.R_drewN | apply Kd.R_drew)); exact HO_7.out) hb); have n1_ := Aside0.mk (blk_below (g := gb442) (o := .cells #[.slice A0_0 l0_0.length c0_0, .slice A0_1 l0_1.length c0_1] 25 (0, 0)) (by (with_reducible repeat (first | refine blk_drewN ?_ _ | refine blk_drew ?_ | refine blk_alloc ?_ _)); exact BK442.out) hb); have n2_ := Aside0.mk (below_step (by repeat (first | (with_reducible first | exact HB.out | apply below_alloc | apply pw_below_drewN | apply below_drew1 | refine below_set ?_ GE442.out) | exact HB.out)) hb); clear HO_7; clear BK442; clear HB; have HO_7 := n0_; have BK442 := n1_; have HB := n2_; clear n0_ n1_ n2_; (try clear hb); (try clear hb2); (try clear hk); (try clear hi)))
                        go_meet
                        case rel => exact ⟨_, (true), (by first | rfl | (simp; done) | (simp [*]; done)), H', ⟨by have := HJ3.out; have := HJ29.out; first | omega | exact Nat.le_refl _⟩, ⟨by (with_reducible repeat (first | apply Kd.R_alloc | apply Kd.R_drewN | apply Kd.R_drew)); exact HO_7.out⟩, ⟨by (with_reducible repeat (first | refine blk_drewN ?_ _ | refine blk_drew ?_ | refine blk_alloc ?_ _)); exact BK442.out⟩, ⟨by repeat (first | (with_reducible first | exact HB.out | apply below_alloc | apply pw_below_drewN | apply below_drew1 | refine below_set ?_ GE442.out) | exact HB.out)⟩⟩
                    · rw [if_neg c47] at H
                      have c47b0 : (t450 == t458) = false := beq_eq_false_iff_ne.mpr c47
                      have c47b1 : (t450 != t458) = true := bne_iff_ne.mpr c47
                      (first | rw [c47b0] | (simp only [i64_w, i32_w]; rw [c47b0]) | skip)
                      have H' := Aside0.mk H
                      clear H
                      have hcz59_0 : wc.cell? ⟨gb442, 0, none⟩ = some (.slice A0_0 l0_0.length c0_0) := (blk_cell BK442.out 0).trans rfl
                      have hcz59_1 : wc.cell? ⟨gb442, 1, none⟩ = some (.slice A0_1 l0_1.length c0_1) := (blk_cell BK442.out 1).trans rfl
                      have hfz59_0 := blk_frozen BK442.out 0
                      have hfz59_1 := blk_frozen BK442.out 1
                      obtain ⟨Ao60, co60, eo60⟩ := Kd.R_slice HO_7.out
                      subst eo60
                      go_wp2_with (first | ((with_reducible refine gate_callee (f := 24) rfl ?_); refine goesL_ (some 89) rfl rfl Try.func24 (by kernel_rfl) rfl #[.agg #[.slice A0_0 l0_0.length c0_0, .slice A0_1 l0_1.length c0_1], .slice Ao60 t447.length co60] rfl (by (try simp only [List.map_toArray, List.map_cons, List.map_nil]); first | done | rfl | (simp only [List.length_drop, List.length_take]; rfl)) ?_; (with_reducible refine (talikref03_Coolers.calls kj29 _ _ l0_0 _ _ l0_1 _ _ t447 true _ ?side1 ?side2 ?side3 ?side4 ?side5 ?side6 A44.out).mono ?_); (case side1 => repeat (first | exact (Kd.C_below HR0_0.out HB.out) | (with_reducible refine Kd.C_alloc ?_ _) | (with_reducible refine Kd.C_drewN ?_ _) | (with_reducible refine Kd.C_drew ?_))); (case side2 => exact HC0_0.out); (case side3 => repeat (first | exact (Kd.C_below HR0_1.out HB.out) | (with_reducible refine Kd.C_alloc ?_ _) | (with_reducible refine Kd.C_drewN ?_ _) | (with_reducible refine Kd.C_drew ?_))); (case side4 => exact HC0_1.out); (case side5 => repeat (first | exact (Kd.R_reads' HO_7.out).2.2 | (with_reducible refine Kd.C_alloc ?_ _) | (with_reducible refine Kd.C_drewN ?_ _) | (with_reducible refine Kd.C_drew ?_))); (case side6 => exact (Kd.R_reads' HO_7.out).2.1); rintro e w61 ⟨rfl, hb⟩; refine ⟨_, rfl, ?_⟩; have n0_ := Aside0.mk (Kd.R_below (by (with_reducible repeat (first | apply Kd.R_alloc | apply Kd.R_drewN | apply Kd.R_drew)); exact HO_7.out) hb); have n1_ := Aside0.mk (blk_below (g := gb442) (o := .cells #[.slice A0_0 l0_0.length c0_0, .slice A0_1 l0_1.length c0_1] 25 (0, 0)) (by (with_reducible repeat (first | refine blk_drewN ?_ _ | refine blk_drew ?_ | refine blk_alloc ?_ _)); exact BK442.out) hb); have n2_ := Aside0.mk (below_step (by repeat (first | (with_reducible first | exact HB.out | apply below_alloc | apply pw_below_drewN | apply below_drew1 | refine below_set ?_ GE442.out) | exact HB.out)) hb); clear HO_7; clear BK442; clear HB; have HO_7 := n0_; have BK442 := n1_; have HB := n2_; clear n0_ n1_ n2_; (try clear hb); (try clear hb2); (try clear hk); (try clear hi); have hcz62_0 : w61.cell? ⟨gb442, 0, none⟩ = some (.slice A0_0 l0_0.length c0_0) := (blk_cell BK442.out 0).trans rfl; have hcz62_1 : w61.cell? ⟨gb442, 1, none⟩ = some (.slice A0_1 l0_1.length c0_1) := (blk_cell BK442.out 1).trans rfl; have hfz62_0 := blk_frozen BK442.out 0; have hfz62_1 := blk_frozen BK442.out 1) | (go_at_call 21; (with_reducible refine (talikref03_Cost.calls kj29 _ _ l0_0 _ _ l0_1 _ _ t447 t458 _ ?side1 ?side2 ?side3 ?side4 ?side5 ?side6 A46.out).mono ?_); (case side1 => repeat (first | exact (Kd.C_below HR0_0.out HB.out) | (with_reducible refine Kd.C_alloc ?_ _) | (with_reducible refine Kd.C_drewN ?_ _) | (with_reducible refine Kd.C_drew ?_))); (case side2 => exact HC0_0.out); (case side3 => repeat (first | exact (Kd.C_below HR0_1.out HB.out) | (with_reducible refine Kd.C_alloc ?_ _) | (with_reducible refine Kd.C_drewN ?_ _) | (with_reducible refine Kd.C_drew ?_))); (case side4 => exact HC0_1.out); (case side5 => repeat (first | exact (Kd.R_reads' HO_7.out).2.2 | (with_reducible refine Kd.C_alloc ?_ _) | (with_reducible refine Kd.C_drewN ?_ _) | (with_reducible refine Kd.C_drew ?_))); (case side6 => exact (Kd.R_reads' HO_7.out).2.1); rintro e w63 ⟨rfl, hb⟩; have n0_ := Aside0.mk (Kd.R_below (by (with_reducible repeat (first | apply Kd.R_alloc | apply Kd.R_drewN | apply Kd.R_drew)); exact HO_7.out) hb); have n1_ := Aside0.mk (blk_below (g := gb442) (o := .cells #[.slice A0_0 l0_0.length c0_0, .slice A0_1 l0_1.length c0_1] 25 (0, 0)) (by (with_reducible repeat (first | refine blk_drewN ?_ _ | refine blk_drew ?_ | refine blk_alloc ?_ _)); exact BK442.out) hb); have n2_ := Aside0.mk (below_step (by repeat (first | (with_reducible first | exact HB.out | apply below_alloc | apply pw_below_drewN | apply below_drew1 | refine below_set ?_ GE442.out) | exact HB.out)) hb); clear HO_7; clear BK442; clear HB; have HO_7 := n0_; have BK442 := n1_; have HB := n2_; clear n0_ n1_ n2_; (try clear hb); (try clear hb2); (try clear hk); (try clear hi)))
                      go_meet
                      case rel => exact ⟨_, (true), (by first | rfl | (simp; done) | (simp [*]; done)), H', ⟨by have := HJ3.out; have := HJ29.out; first | omega | exact Nat.le_refl _⟩, ⟨by (with_reducible repeat (first | apply Kd.R_alloc | apply Kd.R_drewN | apply Kd.R_drew)); exact HO_7.out⟩, ⟨by (with_reducible repeat (first | refine blk_drewN ?_ _ | refine blk_drew ?_ | refine blk_alloc ?_ _)); exact BK442.out⟩, ⟨by repeat (first | (with_reducible first | exact HB.out | apply below_alloc | apply pw_below_drewN | apply below_drew1 | refine below_set ?_ GE442.out) | exact HB.out)⟩⟩
                  · replace c45 := Bool.eq_false_iff.mpr c45
                    subst c45
                    have H1 : (taliklaw03_CoolRivals.j2 kj29 a1 l2 t447 t450 t454 true l0_0 l0_1) = some r := by rw [if_neg (show ¬ (false = true) by decide)] at H; exact H
                    clear H
                    have H := H1
                    clear H1
                    have H' := Aside0.mk H
                    clear H
                    have hcz64_0 : wc.cell? ⟨gb442, 0, none⟩ = some (.slice A0_0 l0_0.length c0_0) := (blk_cell BK442.out 0).trans rfl
                    have hcz64_1 : wc.cell? ⟨gb442, 1, none⟩ = some (.slice A0_1 l0_1.length c0_1) := (blk_cell BK442.out 1).trans rfl
                    have hfz64_0 := blk_frozen BK442.out 0
                    have hfz64_1 := blk_frozen BK442.out 1
                    obtain ⟨Ao65, co65, eo65⟩ := Kd.R_slice HO_7.out
                    subst eo65
                    go_wp2_with (first | ((with_reducible refine gate_callee (f := 24) rfl ?_); refine goesL_ (some 89) rfl rfl Try.func24 (by kernel_rfl) rfl #[.agg #[.slice A0_0 l0_0.length c0_0, .slice A0_1 l0_1.length c0_1], .slice Ao65 t447.length co65] rfl (by (try simp only [List.map_toArray, List.map_cons, List.map_nil]); first | done | rfl | (simp only [List.length_drop, List.length_take]; rfl)) ?_; (with_reducible refine (talikref03_Coolers.calls kj29 _ _ l0_0 _ _ l0_1 _ _ t447 false _ ?side1 ?side2 ?side3 ?side4 ?side5 ?side6 A44.out).mono ?_); (case side1 => repeat (first | exact (Kd.C_below HR0_0.out HB.out) | (with_reducible refine Kd.C_alloc ?_ _) | (with_reducible refine Kd.C_drewN ?_ _) | (with_reducible refine Kd.C_drew ?_))); (case side2 => exact HC0_0.out); (case side3 => repeat (first | exact (Kd.C_below HR0_1.out HB.out) | (with_reducible refine Kd.C_alloc ?_ _) | (with_reducible refine Kd.C_drewN ?_ _) | (with_reducible refine Kd.C_drew ?_))); (case side4 => exact HC0_1.out); (case side5 => repeat (first | exact (Kd.R_reads' HO_7.out).2.2 | (with_reducible refine Kd.C_alloc ?_ _) | (with_reducible refine Kd.C_drewN ?_ _) | (with_reducible refine Kd.C_drew ?_))); (case side6 => exact (Kd.R_reads' HO_7.out).2.1); rintro e w66 ⟨rfl, hb⟩; refine ⟨_, rfl, ?_⟩; have n0_ := Aside0.mk (Kd.R_below (by (with_reducible repeat (first | apply Kd.R_alloc | apply Kd.R_drewN | apply Kd.R_drew)); exact HO_7.out) hb); have n1_ := Aside0.mk (blk_below (g := gb442) (o := .cells #[.slice A0_0 l0_0.length c0_0, .slice A0_1 l0_1.length c0_1] 25 (0, 0)) (by (with_reducible repeat (first | refine blk_drewN ?_ _ | refine blk_drew ?_ | refine blk_alloc ?_ _)); exact BK442.out) hb); have n2_ := Aside0.mk (below_step (by repeat (first | (with_reducible first | exact HB.out | apply below_alloc | apply pw_below_drewN | apply below_drew1 | refine below_set ?_ GE442.out) | exact HB.out)) hb); clear HO_7; clear BK442; clear HB; have HO_7 := n0_; have BK442 := n1_; have HB := n2_; clear n0_ n1_ n2_; (try clear hb); (try clear hb2); (try clear hk); (try clear hi)))
                    go_meet
                    case rel => exact ⟨_, (true), (by first | rfl | (simp; done) | (simp [*]; done)), H', ⟨by have := HJ3.out; have := HJ29.out; first | omega | exact Nat.le_refl _⟩, ⟨by (with_reducible repeat (first | apply Kd.R_alloc | apply Kd.R_drewN | apply Kd.R_drew)); exact HO_7.out⟩, ⟨by (with_reducible repeat (first | refine blk_drewN ?_ _ | refine blk_drew ?_ | refine blk_alloc ?_ _)); exact BK442.out⟩, ⟨by repeat (first | (with_reducible first | exact HB.out | apply below_alloc | apply pw_below_drewN | apply below_drew1 | refine below_set ?_ GE442.out) | exact HB.out)⟩⟩
                case rest =>
                  clear HC43
                  try clear c1
                  try clear c2
                  try clear p2
                  try clear c3
                  try clear c4
                  try clear c7
                  try clear c8
                  try clear c8b0
                  try clear c8b1
                  try clear c12
                  try clear c14
                  try clear c15
                  try clear c16
                  try clear c23
                  try clear c24
                  try clear c37
                  try clear c37b0
                  try clear c37b1
                  try clear c38
                  try clear c39
                  try clear c39b0
                  try clear c39b1
                  try clear c40
                  try clear c40b0
                  try clear c41
                  try clear c42
                  try clear c42b0
                  try clear c42b1
                  try clear c45
                  try clear c47
                  try clear c47b0
                  try clear c47b1
                  try clear c48
                  try clear c48b0
                  try clear c48b1
                  try clear hcz14_0
                  try clear hcz14_1
                  try clear hcz16_0
                  try clear hcz16_1
                  try clear hcz18_0
                  try clear hcz18_1
                  try clear hcz20_0
                  try clear hcz20_1
                  try clear hcz22_0
                  try clear hcz22_1
                  try clear hcz31_0
                  try clear hcz31_1
                  try clear hcz33_0
                  try clear hcz33_1
                  try clear hcz35_0
                  try clear hcz35_1
                  try clear hcz49_0
                  try clear hcz49_1
                  try clear hcz52_0
                  try clear hcz52_1
                  try clear hcz54_0
                  try clear hcz54_1
                  try clear hcz57_0
                  try clear hcz57_1
                  try clear hcz59_0
                  try clear hcz59_1
                  try clear hcz62_0
                  try clear hcz62_1
                  try clear hcz64_0
                  try clear hcz64_1
                  try clear hcz9_0
                  try clear hcz9_1
                  try clear hfz14_0
                  try clear hfz14_1
                  try clear hfz16_0
                  try clear hfz16_1
                  try clear hfz18_0
                  try clear hfz18_1
                  try clear hfz20_0
                  try clear hfz20_1
                  try clear hfz22_0
                  try clear hfz22_1
                  try clear hfz31_0
                  try clear hfz31_1
                  try clear hfz33_0
                  try clear hfz33_1
                  try clear hfz35_0
                  try clear hfz35_1
                  try clear hfz49_0
                  try clear hfz49_1
                  try clear hfz52_0
                  try clear hfz52_1
                  try clear hfz54_0
                  try clear hfz54_1
                  try clear hfz57_0
                  try clear hfz57_1
                  try clear hfz59_0
                  try clear hfz59_1
                  try clear hfz62_0
                  try clear hfz62_1
                  try clear hfz64_0
                  try clear hfz64_1
                  try clear hfz9_0
                  try clear hfz9_1
                  try clear p2
                  obtain ⟨kq, x107_42, rfl, HA, HJ42, HO_7, BK442, HB⟩ := hcut
                  cases kq with
                  | zero => exact absurd HA.out (by simp [taliklaw03_CoolRivals.j2])
                  | succ kj42 =>
                    have H := HA.out
                    clear HA
                    simp only [taliklaw03_CoolRivals.j2] at H
                    by_cases c67 : x107_42 = true
                    · subst c67
                      have H1 : (some false) = some r := by rw [if_pos rfl] at H; exact H
                      clear H
                      have H := H1
                      clear H1
                      obtain rfl := Option.some.inj H
                      go_wp2
                      go_ret
                      exact ⟨by first | rfl | (simp [errW_none, errW_some] <;> rfl) | (simp [*, errW_none, errW_some] <;> rfl), by repeat (first | (with_reducible first | exact HB.out | apply below_alloc | apply pw_below_drewN | apply below_drew1 | refine below_set ?_ GE442.out) | exact HB.out)⟩
                    · replace c67 := Bool.eq_false_iff.mpr c67
                      subst c67
                      have H1 : ((cool_Keeps.f l0_0 l0_1 t447 a1).bind fun bt459 => (if bt459.2 = 0 then (taliklaw03_CoolRivals.j3 kj42 l2 t447 t450 t454 (!bt459.1) l0_0 l0_1) else (taliklaw03_CoolRivals.j3 kj42 l2 t447 t450 t454 true l0_0 l0_1))) = some r := by rw [if_neg (show ¬ (false = true) by decide)] at H; exact H
                      clear H
                      have H := H1
                      clear H1
                      replace H := Option.bind_eq_some_iff.mp H
                      obtain ⟨⟨t459, t460⟩, A680, H⟩ := H
                      replace H : (if t460 = 0 then (taliklaw03_CoolRivals.j3 kj42 l2 t447 t450 t454 (!t459) l0_0 l0_1) else (taliklaw03_CoolRivals.j3 kj42 l2 t447 t450 t454 true l0_0 l0_1)) = some r := H
                      have A68 := Aside0.mk A680
                      clear A680
                      have HC69 := Aside0.mk H
                      clear H
                      have hcz70_0 : wc.cell? ⟨gb442, 0, none⟩ = some (.slice A0_0 l0_0.length c0_0) := (blk_cell BK442.out 0).trans rfl
                      have hcz70_1 : wc.cell? ⟨gb442, 1, none⟩ = some (.slice A0_1 l0_1.length c0_1) := (blk_cell BK442.out 1).trans rfl
                      have hfz70_0 := blk_frozen BK442.out 0
                      have hfz70_1 := blk_frozen BK442.out 1
                      obtain ⟨Ao71, co71, eo71⟩ := Kd.R_slice HO_7.out
                      subst eo71
                      go_upto_region 13 with (first | ((with_reducible refine gate_callee (f := 23) rfl ?_); refine goesL_ (some 112) rfl rfl Try.func23 (by kernel_rfl) rfl #[.agg #[.slice A0_0 l0_0.length c0_0, .slice A0_1 l0_1.length c0_1], .slice Ao71 t447.length co71, .int .i64 a1] rfl (by (try simp only [List.map_toArray, List.map_cons, List.map_nil]); first | done | rfl | (simp only [List.length_drop, List.length_take]; rfl)) ?_; (with_reducible refine (cool_Keeps.calls _ _ l0_0 _ _ l0_1 _ _ t447 a1 t459 t460 _ ?side1 ?side2 ?side3 ?side4 ?side5 ?side6 A68.out).mono ?_); (case side1 => repeat (first | exact (Kd.C_below HR0_0.out HB.out) | (with_reducible refine Kd.C_alloc ?_ _) | (with_reducible refine Kd.C_drewN ?_ _) | (with_reducible refine Kd.C_drew ?_))); (case side2 => exact HC0_0.out); (case side3 => repeat (first | exact (Kd.C_below HR0_1.out HB.out) | (with_reducible refine Kd.C_alloc ?_ _) | (with_reducible refine Kd.C_drewN ?_ _) | (with_reducible refine Kd.C_drew ?_))); (case side4 => exact HC0_1.out); (case side5 => repeat (first | exact (Kd.R_reads' HO_7.out).2.2 | (with_reducible refine Kd.C_alloc ?_ _) | (with_reducible refine Kd.C_drewN ?_ _) | (with_reducible refine Kd.C_drew ?_))); (case side6 => exact (Kd.R_reads' HO_7.out).2.1); rintro e w72 ⟨rfl, hb⟩; refine ⟨_, rfl, ?_⟩; have n0_ := Aside0.mk (Kd.R_below (by (with_reducible repeat (first | apply Kd.R_alloc | apply Kd.R_drewN | apply Kd.R_drew)); exact HO_7.out) hb); have n1_ := Aside0.mk (blk_below (g := gb442) (o := .cells #[.slice A0_0 l0_0.length c0_0, .slice A0_1 l0_1.length c0_1] 25 (0, 0)) (by (with_reducible repeat (first | refine blk_drewN ?_ _ | refine blk_drew ?_ | refine blk_alloc ?_ _)); exact BK442.out) hb); have n2_ := Aside0.mk (below_step (by repeat (first | (with_reducible first | exact HB.out | apply below_alloc | apply pw_below_drewN | apply below_drew1 | refine below_set ?_ GE442.out) | exact HB.out)) hb); clear HO_7; clear BK442; clear HB; have HO_7 := n0_; have BK442 := n1_; have HB := n2_; clear n0_ n1_ n2_; (try clear hb); (try clear hb2); (try clear hk); (try clear hi)))
                      (try simp only [Act.put, List.setIfInBounds_toArray, List.set_cons_zero, List.set_cons_succ])
                      go_cut [120] (fun v120 wc => ∃ (kq : Nat) (x120_68 : Bool), v120 = .bool x120_68 ∧ Aside0 (taliklaw03_CoolRivals.j3 kq l2 t447 t450 t454 x120_68 l0_0 l0_1 = some r) ∧ Aside0 (kq ≤ kj42) ∧ Aside0 (Kd.R (Kd.int .i64) 3 wc w.heap.size (fun _ => True) (.slice Ao71 t447.length co71) t447) ∧ Aside0 (wc.heap[gb442]? = some (.cells #[(.slice A0_0 l0_0.length c0_0), (.slice A0_1 l0_1.length c0_1)] 25 (0, 0))) ∧ Aside0 (Below w.heap.size w wc))
                      case first =>
                        have H := HC69.out
                        clear HC69
                        by_cases c73 : t460 = 0
                        · rw [if_pos c73] at H
                          have c73b0 : (t460 == 0) = true := beq_iff_eq.mpr c73
                          have c73b1 : (t460 != 0) = false := bne_eq_false_iff_eq.mpr c73
                          clear c73
                          (first | rw [c73b0] | (simp only [i64_w, i32_w]; rw [c73b0]) | skip)
                          have H' := Aside0.mk H
                          clear H
                          go_wp2
                          go_meet
                          case rel => exact ⟨_, (!t459), (by first | rfl | (simp; done) | (simp [*]; done)), H', ⟨by have := HJ3.out; have := HJ29.out; have := HJ42.out; first | omega | exact Nat.le_refl _⟩, ⟨by (with_reducible repeat (first | apply Kd.R_alloc | apply Kd.R_drewN | apply Kd.R_drew)); exact HO_7.out⟩, ⟨by (with_reducible repeat (first | refine blk_drewN ?_ _ | refine blk_drew ?_ | refine blk_alloc ?_ _)); exact BK442.out⟩, ⟨by repeat (first | (with_reducible first | exact HB.out | apply below_alloc | apply pw_below_drewN | apply below_drew1 | refine below_set ?_ GE442.out) | exact HB.out)⟩⟩
                        · rw [if_neg c73] at H
                          have c73b0 : (t460 == 0) = false := beq_eq_false_iff_ne.mpr c73
                          have c73b1 : (t460 != 0) = true := bne_iff_ne.mpr c73
                          (first | rw [c73b0] | (simp only [i64_w, i32_w]; rw [c73b0]) | skip)
                          have H' := Aside0.mk H
                          clear H
                          go_wp2
                          go_meet
                          case rel => exact ⟨_, (true), (by first | rfl | (simp; done) | (simp [*]; done)), H', ⟨by have := HJ3.out; have := HJ29.out; have := HJ42.out; first | omega | exact Nat.le_refl _⟩, ⟨by (with_reducible repeat (first | apply Kd.R_alloc | apply Kd.R_drewN | apply Kd.R_drew)); exact HO_7.out⟩, ⟨by (with_reducible repeat (first | refine blk_drewN ?_ _ | refine blk_drew ?_ | refine blk_alloc ?_ _)); exact BK442.out⟩, ⟨by repeat (first | (with_reducible first | exact HB.out | apply below_alloc | apply pw_below_drewN | apply below_drew1 | refine below_set ?_ GE442.out) | exact HB.out)⟩⟩
                      case rest =>
                        clear HC69
                        try clear c1
                        try clear c2
                        try clear p2
                        try clear c3
                        try clear c4
                        try clear c6
                        try clear c7
                        try clear c8
                        try clear c8b0
                        try clear c8b1
                        try clear c12
                        try clear c14
                        try clear c15
                        try clear c16
                        try clear c23
                        try clear c24
                        try clear c37
                        try clear c37b0
                        try clear c37b1
                        try clear c38
                        try clear c39
                        try clear c39b0
                        try clear c39b1
                        try clear c40
                        try clear c40b0
                        try clear c41
                        try clear c42
                        try clear c42b0
                        try clear c42b1
                        try clear c45
                        try clear c47
                        try clear c47b0
                        try clear c47b1
                        try clear c48
                        try clear c48b0
                        try clear c48b1
                        try clear c67
                        try clear c73
                        try clear c73b0
                        try clear c73b1
                        try clear hcz14_0
                        try clear hcz14_1
                        try clear hcz16_0
                        try clear hcz16_1
                        try clear hcz18_0
                        try clear hcz18_1
                        try clear hcz20_0
                        try clear hcz20_1
                        try clear hcz22_0
                        try clear hcz22_1
                        try clear hcz31_0
                        try clear hcz31_1
                        try clear hcz33_0
                        try clear hcz33_1
                        try clear hcz35_0
                        try clear hcz35_1
                        try clear hcz49_0
                        try clear hcz49_1
                        try clear hcz52_0
                        try clear hcz52_1
                        try clear hcz54_0
                        try clear hcz54_1
                        try clear hcz57_0
                        try clear hcz57_1
                        try clear hcz59_0
                        try clear hcz59_1
                        try clear hcz62_0
                        try clear hcz62_1
                        try clear hcz64_0
                        try clear hcz64_1
                        try clear hcz70_0
                        try clear hcz70_1
                        try clear hcz9_0
                        try clear hcz9_1
                        try clear hfz14_0
                        try clear hfz14_1
                        try clear hfz16_0
                        try clear hfz16_1
                        try clear hfz18_0
                        try clear hfz18_1
                        try clear hfz20_0
                        try clear hfz20_1
                        try clear hfz22_0
                        try clear hfz22_1
                        try clear hfz31_0
                        try clear hfz31_1
                        try clear hfz33_0
                        try clear hfz33_1
                        try clear hfz35_0
                        try clear hfz35_1
                        try clear hfz49_0
                        try clear hfz49_1
                        try clear hfz52_0
                        try clear hfz52_1
                        try clear hfz54_0
                        try clear hfz54_1
                        try clear hfz57_0
                        try clear hfz57_1
                        try clear hfz59_0
                        try clear hfz59_1
                        try clear hfz62_0
                        try clear hfz62_1
                        try clear hfz64_0
                        try clear hfz64_1
                        try clear hfz70_0
                        try clear hfz70_1
                        try clear hfz9_0
                        try clear hfz9_1
                        try clear p2
                        obtain ⟨kq, x120_68, rfl, HA, HJ68, HO_7, BK442, HB⟩ := hcut
                        cases kq with
                        | zero => exact absurd HA.out (by simp [taliklaw03_CoolRivals.j3])
                        | succ kj68 =>
                          have H := HA.out
                          clear HA
                          simp only [taliklaw03_CoolRivals.j3] at H
                          by_cases c74 : x120_68 = true
                          · subst c74
                            have H1 : (some false) = some r := by rw [if_pos rfl] at H; exact H
                            clear H
                            have H := H1
                            clear H1
                            obtain rfl := Option.some.inj H
                            go_wp2
                            go_ret
                            exact ⟨by first | rfl | (simp [errW_none, errW_some] <;> rfl) | (simp [*, errW_none, errW_some] <;> rfl), by repeat (first | (with_reducible first | exact HB.out | apply below_alloc | apply pw_below_drewN | apply below_drew1 | refine below_set ?_ GE442.out) | exact HB.out)⟩
                          · replace c74 := Bool.eq_false_iff.mpr c74
                            subst c74
                            have H1 : ((talikref03_Cost.f kj68 l0_0 l0_1 l2).bind fun t461 => (if t454 = true then (if t461 > t450 then ((taliklaw03_known.f kj68).bind fun t462 => (some t462)) else (if t461 = t450 then (if (l2.length : Int) > (t447.length : Int) then ((taliklaw03_known.f kj68).bind fun t463 => (some t463)) else (if (l2.length : Int) = (t447.length : Int) then ((talikref03_Before.f kj68 l2 t447).bind fun t464 => (if t464 = true then (some false) else ((taliklaw03_known.f kj68).bind fun t465 => (some t465)))) else (some false))) else (some false))) else ((taliklaw03_known.f kj68).bind fun t466 => (some t466)))) = some r := by rw [if_neg (show ¬ (false = true) by decide)] at H; exact H
                            clear H
                            have H := H1
                            clear H1
                            replace H := Option.bind_eq_some_iff.mp H
                            obtain ⟨t461, A750, H⟩ := H
                            replace H : (if t454 = true then (if t461 > t450 then ((taliklaw03_known.f kj68).bind fun t462 => (some t462)) else (if t461 = t450 then (if (l2.length : Int) > (t447.length : Int) then ((taliklaw03_known.f kj68).bind fun t463 => (some t463)) else (if (l2.length : Int) = (t447.length : Int) then ((talikref03_Before.f kj68 l2 t447).bind fun t464 => (if t464 = true then (some false) else ((taliklaw03_known.f kj68).bind fun t465 => (some t465)))) else (some false))) else (some false))) else ((taliklaw03_known.f kj68).bind fun t466 => (some t466))) = some r := H
                            have A75 := Aside0.mk A750
                            clear A750
                            by_cases c76 : t454 = true
                            · subst c76
                              have H1 : (if t461 > t450 then ((taliklaw03_known.f kj68).bind fun t462 => (some t462)) else (if t461 = t450 then (if (l2.length : Int) > (t447.length : Int) then ((taliklaw03_known.f kj68).bind fun t463 => (some t463)) else (if (l2.length : Int) = (t447.length : Int) then ((talikref03_Before.f kj68 l2 t447).bind fun t464 => (if t464 = true then (some false) else ((taliklaw03_known.f kj68).bind fun t465 => (some t465)))) else (some false))) else (some false))) = some r := by rw [if_pos rfl] at H; exact H
                              clear H
                              have H := H1
                              clear H1
                              by_cases c77 : t461 > t450
                              · rw [if_pos c77] at H
                                have c77b0 : decide (t450 < t461) = true := decide_eq_true c77
                                clear c77
                                replace H := Option.bind_eq_some_iff.mp H
                                obtain ⟨t462, A780, H⟩ := H
                                replace H : (some t462) = some r := H
                                have A78 := Aside0.mk A780
                                clear A780
                                obtain rfl := Option.some.inj H
                                have hcz79_0 : wc.cell? ⟨gb442, 0, none⟩ = some (.slice A0_0 l0_0.length c0_0) := (blk_cell BK442.out 0).trans rfl
                                have hcz79_1 : wc.cell? ⟨gb442, 1, none⟩ = some (.slice A0_1 l0_1.length c0_1) := (blk_cell BK442.out 1).trans rfl
                                have hfz79_0 := blk_frozen BK442.out 0
                                have hfz79_1 := blk_frozen BK442.out 1
                                go_wp2_with (first | ((with_reducible refine gate_callee (f := 21) rfl ?_); refine goesL_ (some 123) rfl rfl Try.func21 (by kernel_rfl) rfl #[.agg #[.slice A0_0 l0_0.length c0_0, .slice A0_1 l0_1.length c0_1], .slice A2 l2.length c2] rfl (by (try simp only [List.map_toArray, List.map_cons, List.map_nil]); first | done | rfl | (simp only [List.length_drop, List.length_take]; rfl)) ?_; (with_reducible refine (talikref03_Cost.calls kj68 _ _ l0_0 _ _ l0_1 _ _ l2 t461 _ ?side1 ?side2 ?side3 ?side4 ?side5 ?side6 A75.out).mono ?_); (case side1 => repeat (first | exact (Kd.C_below HR0_0.out HB.out) | (with_reducible refine Kd.C_alloc ?_ _) | (with_reducible refine Kd.C_drewN ?_ _) | (with_reducible refine Kd.C_drew ?_))); (case side2 => exact HC0_0.out); (case side3 => repeat (first | exact (Kd.C_below HR0_1.out HB.out) | (with_reducible refine Kd.C_alloc ?_ _) | (with_reducible refine Kd.C_drewN ?_ _) | (with_reducible refine Kd.C_drew ?_))); (case side4 => exact HC0_1.out); (case side5 => repeat (first | exact (Kd.C_below HR2.out HB.out) | (with_reducible refine Kd.C_alloc ?_ _) | (with_reducible refine Kd.C_drewN ?_ _) | (with_reducible refine Kd.C_drew ?_))); (case side6 => exact HC2.out); rintro e w80 ⟨rfl, hb⟩; refine ⟨_, rfl, ?_⟩; have n0_ := Aside0.mk (Kd.R_below (by (with_reducible repeat (first | apply Kd.R_alloc | apply Kd.R_drewN | apply Kd.R_drew)); exact HO_7.out) hb); have n1_ := Aside0.mk (blk_below (g := gb442) (o := .cells #[.slice A0_0 l0_0.length c0_0, .slice A0_1 l0_1.length c0_1] 25 (0, 0)) (by (with_reducible repeat (first | refine blk_drewN ?_ _ | refine blk_drew ?_ | refine blk_alloc ?_ _)); exact BK442.out) hb); have n2_ := Aside0.mk (below_step (by repeat (first | (with_reducible first | exact HB.out | apply below_alloc | apply pw_below_drewN | apply below_drew1 | refine below_set ?_ GE442.out) | exact HB.out)) hb); clear HO_7; clear BK442; clear HB; have HO_7 := n0_; have BK442 := n1_; have HB := n2_; clear n0_ n1_ n2_; (try clear hb); (try clear hb2); (try clear hk); (try clear hi)) | (go_at_call 14; (with_reducible refine (taliklaw03_known.calls kj68  t462 _ A78.out).mono ?_); rintro e w81 ⟨rfl, hb⟩; have n0_ := Aside0.mk (Kd.R_below (by (with_reducible repeat (first | apply Kd.R_alloc | apply Kd.R_drewN | apply Kd.R_drew)); exact HO_7.out) hb); have n1_ := Aside0.mk (blk_below (g := gb442) (o := .cells #[.slice A0_0 l0_0.length c0_0, .slice A0_1 l0_1.length c0_1] 25 (0, 0)) (by (with_reducible repeat (first | refine blk_drewN ?_ _ | refine blk_drew ?_ | refine blk_alloc ?_ _)); exact BK442.out) hb); have n2_ := Aside0.mk (below_step (by repeat (first | (with_reducible first | exact HB.out | apply below_alloc | apply pw_below_drewN | apply below_drew1 | refine below_set ?_ GE442.out) | exact HB.out)) hb); clear HO_7; clear BK442; clear HB; have HO_7 := n0_; have BK442 := n1_; have HB := n2_; clear n0_ n1_ n2_; (try clear hb); (try clear hb2); (try clear hk); (try clear hi)))
                                go_ret
                                exact ⟨by first | rfl | (simp [errW_none, errW_some] <;> rfl) | (simp [*, errW_none, errW_some] <;> rfl), by repeat (first | (with_reducible first | exact HB.out | apply below_alloc | apply pw_below_drewN | apply below_drew1 | refine below_set ?_ GE442.out) | exact HB.out)⟩
                              · rw [if_neg c77] at H
                                have c77b0 : decide (t450 < t461) = false := decide_eq_false c77
                                clear c77
                                by_cases c82 : t461 = t450
                                · rw [if_pos c82] at H
                                  have c82b0 : (t461 == t450) = true := beq_iff_eq.mpr c82
                                  have c82b1 : (t461 != t450) = false := bne_eq_false_iff_eq.mpr c82
                                  clear c82
                                  by_cases c83 : (l2.length : Int) > (t447.length : Int)
                                  · rw [if_pos c83] at H
                                    have c83b0 : decide ((t447.length : Int) < (l2.length : Int)) = true := decide_eq_true c83
                                    have c83b1 : decide (t447.length < l2.length) = true := decide_eq_true (Int.ofNat_lt.mp c83)
                                    clear c83
                                    replace H := Option.bind_eq_some_iff.mp H
                                    obtain ⟨t463, A840, H⟩ := H
                                    replace H : (some t463) = some r := H
                                    have A84 := Aside0.mk A840
                                    clear A840
                                    obtain rfl := Option.some.inj H
                                    have hcz85_0 : wc.cell? ⟨gb442, 0, none⟩ = some (.slice A0_0 l0_0.length c0_0) := (blk_cell BK442.out 0).trans rfl
                                    have hcz85_1 : wc.cell? ⟨gb442, 1, none⟩ = some (.slice A0_1 l0_1.length c0_1) := (blk_cell BK442.out 1).trans rfl
                                    have hfz85_0 := blk_frozen BK442.out 0
                                    have hfz85_1 := blk_frozen BK442.out 1
                                    go_wp2_with (first | ((with_reducible refine gate_callee (f := 21) rfl ?_); refine goesL_ (some 123) rfl rfl Try.func21 (by kernel_rfl) rfl #[.agg #[.slice A0_0 l0_0.length c0_0, .slice A0_1 l0_1.length c0_1], .slice A2 l2.length c2] rfl (by (try simp only [List.map_toArray, List.map_cons, List.map_nil]); first | done | rfl | (simp only [List.length_drop, List.length_take]; rfl)) ?_; (with_reducible refine (talikref03_Cost.calls kj68 _ _ l0_0 _ _ l0_1 _ _ l2 t461 _ ?side1 ?side2 ?side3 ?side4 ?side5 ?side6 A75.out).mono ?_); (case side1 => repeat (first | exact (Kd.C_below HR0_0.out HB.out) | (with_reducible refine Kd.C_alloc ?_ _) | (with_reducible refine Kd.C_drewN ?_ _) | (with_reducible refine Kd.C_drew ?_))); (case side2 => exact HC0_0.out); (case side3 => repeat (first | exact (Kd.C_below HR0_1.out HB.out) | (with_reducible refine Kd.C_alloc ?_ _) | (with_reducible refine Kd.C_drewN ?_ _) | (with_reducible refine Kd.C_drew ?_))); (case side4 => exact HC0_1.out); (case side5 => repeat (first | exact (Kd.C_below HR2.out HB.out) | (with_reducible refine Kd.C_alloc ?_ _) | (with_reducible refine Kd.C_drewN ?_ _) | (with_reducible refine Kd.C_drew ?_))); (case side6 => exact HC2.out); rintro e w86 ⟨rfl, hb⟩; refine ⟨_, rfl, ?_⟩; have n0_ := Aside0.mk (Kd.R_below (by (with_reducible repeat (first | apply Kd.R_alloc | apply Kd.R_drewN | apply Kd.R_drew)); exact HO_7.out) hb); have n1_ := Aside0.mk (blk_below (g := gb442) (o := .cells #[.slice A0_0 l0_0.length c0_0, .slice A0_1 l0_1.length c0_1] 25 (0, 0)) (by (with_reducible repeat (first | refine blk_drewN ?_ _ | refine blk_drew ?_ | refine blk_alloc ?_ _)); exact BK442.out) hb); have n2_ := Aside0.mk (below_step (by repeat (first | (with_reducible first | exact HB.out | apply below_alloc | apply pw_below_drewN | apply below_drew1 | refine below_set ?_ GE442.out) | exact HB.out)) hb); clear HO_7; clear BK442; clear HB; have HO_7 := n0_; have BK442 := n1_; have HB := n2_; clear n0_ n1_ n2_; (try clear hb); (try clear hb2); (try clear hk); (try clear hi)) | (go_at_call 14; (with_reducible refine (taliklaw03_known.calls kj68  t463 _ A84.out).mono ?_); rintro e w87 ⟨rfl, hb⟩; have n0_ := Aside0.mk (Kd.R_below (by (with_reducible repeat (first | apply Kd.R_alloc | apply Kd.R_drewN | apply Kd.R_drew)); exact HO_7.out) hb); have n1_ := Aside0.mk (blk_below (g := gb442) (o := .cells #[.slice A0_0 l0_0.length c0_0, .slice A0_1 l0_1.length c0_1] 25 (0, 0)) (by (with_reducible repeat (first | refine blk_drewN ?_ _ | refine blk_drew ?_ | refine blk_alloc ?_ _)); exact BK442.out) hb); have n2_ := Aside0.mk (below_step (by repeat (first | (with_reducible first | exact HB.out | apply below_alloc | apply pw_below_drewN | apply below_drew1 | refine below_set ?_ GE442.out) | exact HB.out)) hb); clear HO_7; clear BK442; clear HB; have HO_7 := n0_; have BK442 := n1_; have HB := n2_; clear n0_ n1_ n2_; (try clear hb); (try clear hb2); (try clear hk); (try clear hi)))
                                    go_ret
                                    exact ⟨by first | rfl | (simp [errW_none, errW_some] <;> rfl) | (simp [*, errW_none, errW_some] <;> rfl), by repeat (first | (with_reducible first | exact HB.out | apply below_alloc | apply pw_below_drewN | apply below_drew1 | refine below_set ?_ GE442.out) | exact HB.out)⟩
                                  · rw [if_neg c83] at H
                                    have c83b0 : decide ((t447.length : Int) < (l2.length : Int)) = false := decide_eq_false c83
                                    have c83b1 : decide (t447.length < l2.length) = false := decide_eq_false (fun h => c83 (Int.ofNat_lt.mpr h))
                                    clear c83
                                    by_cases c88 : (l2.length : Int) = (t447.length : Int)
                                    · rw [if_pos c88] at H
                                      have c88b0 : ((l2.length : Int) == (t447.length : Int)) = true := beq_iff_eq.mpr c88
                                      have c88b1 : ((l2.length : Int) != (t447.length : Int)) = false := bne_eq_false_iff_eq.mpr c88
                                      have c88b2 : (l2.length == t447.length) = true := by first | simpa using c88 | (simp at c88 ⊢; omega)
                                      clear c88
                                      replace H := Option.bind_eq_some_iff.mp H
                                      obtain ⟨t464, A890, H⟩ := H
                                      replace H : (if t464 = true then (some false) else ((taliklaw03_known.f kj68).bind fun t465 => (some t465))) = some r := H
                                      have A89 := Aside0.mk A890
                                      clear A890
                                      by_cases c90 : t464 = true
                                      · subst c90
                                        have H1 : (some false) = some r := by rw [if_pos rfl] at H; exact H
                                        clear H
                                        have H := H1
                                        clear H1
                                        obtain rfl := Option.some.inj H
                                        have hcz91_0 : wc.cell? ⟨gb442, 0, none⟩ = some (.slice A0_0 l0_0.length c0_0) := (blk_cell BK442.out 0).trans rfl
                                        have hcz91_1 : wc.cell? ⟨gb442, 1, none⟩ = some (.slice A0_1 l0_1.length c0_1) := (blk_cell BK442.out 1).trans rfl
                                        have hfz91_0 := blk_frozen BK442.out 0
                                        have hfz91_1 := blk_frozen BK442.out 1
                                        go_wp2_with (first | ((with_reducible refine gate_callee (f := 21) rfl ?_); refine goesL_ (some 123) rfl rfl Try.func21 (by kernel_rfl) rfl #[.agg #[.slice A0_0 l0_0.length c0_0, .slice A0_1 l0_1.length c0_1], .slice A2 l2.length c2] rfl (by (try simp only [List.map_toArray, List.map_cons, List.map_nil]); first | done | rfl | (simp only [List.length_drop, List.length_take]; rfl)) ?_; (with_reducible refine (talikref03_Cost.calls kj68 _ _ l0_0 _ _ l0_1 _ _ l2 t461 _ ?side1 ?side2 ?side3 ?side4 ?side5 ?side6 A75.out).mono ?_); (case side1 => repeat (first | exact (Kd.C_below HR0_0.out HB.out) | (with_reducible refine Kd.C_alloc ?_ _) | (with_reducible refine Kd.C_drewN ?_ _) | (with_reducible refine Kd.C_drew ?_))); (case side2 => exact HC0_0.out); (case side3 => repeat (first | exact (Kd.C_below HR0_1.out HB.out) | (with_reducible refine Kd.C_alloc ?_ _) | (with_reducible refine Kd.C_drewN ?_ _) | (with_reducible refine Kd.C_drew ?_))); (case side4 => exact HC0_1.out); (case side5 => repeat (first | exact (Kd.C_below HR2.out HB.out) | (with_reducible refine Kd.C_alloc ?_ _) | (with_reducible refine Kd.C_drewN ?_ _) | (with_reducible refine Kd.C_drew ?_))); (case side6 => exact HC2.out); rintro e w92 ⟨rfl, hb⟩; refine ⟨_, rfl, ?_⟩; have n0_ := Aside0.mk (Kd.R_below (by (with_reducible repeat (first | apply Kd.R_alloc | apply Kd.R_drewN | apply Kd.R_drew)); exact HO_7.out) hb); have n1_ := Aside0.mk (blk_below (g := gb442) (o := .cells #[.slice A0_0 l0_0.length c0_0, .slice A0_1 l0_1.length c0_1] 25 (0, 0)) (by (with_reducible repeat (first | refine blk_drewN ?_ _ | refine blk_drew ?_ | refine blk_alloc ?_ _)); exact BK442.out) hb); have n2_ := Aside0.mk (below_step (by repeat (first | (with_reducible first | exact HB.out | apply below_alloc | apply pw_below_drewN | apply below_drew1 | refine below_set ?_ GE442.out) | exact HB.out)) hb); clear HO_7; clear BK442; clear HB; have HO_7 := n0_; have BK442 := n1_; have HB := n2_; clear n0_ n1_ n2_; (try clear hb); (try clear hb2); (try clear hk); (try clear hi)) | (go_at_call 25; (with_reducible refine (talikref03_Before.calls kj68 _ _ l2 _ _ t447 true _ ?side1 ?side2 ?side3 ?side4 A89.out).mono ?_); (case side1 => repeat (first | exact (Kd.C_below HR2.out HB.out) | (with_reducible refine Kd.C_alloc ?_ _) | (with_reducible refine Kd.C_drewN ?_ _) | (with_reducible refine Kd.C_drew ?_))); (case side2 => exact HC2.out); (case side3 => repeat (first | exact (Kd.R_reads' HO_7.out).2.2 | (with_reducible refine Kd.C_alloc ?_ _) | (with_reducible refine Kd.C_drewN ?_ _) | (with_reducible refine Kd.C_drew ?_))); (case side4 => exact (Kd.R_reads' HO_7.out).2.1); rintro e w' ⟨rfl, ⟨nd, rfl⟩⟩))
                                        go_ret
                                        exact ⟨by first | rfl | (simp [errW_none, errW_some] <;> rfl) | (simp [*, errW_none, errW_some] <;> rfl), by repeat (first | (with_reducible first | exact HB.out | apply below_alloc | apply pw_below_drewN | apply below_drew1 | refine below_set ?_ GE442.out) | exact HB.out)⟩
                                      · replace c90 := Bool.eq_false_iff.mpr c90
                                        subst c90
                                        have H1 : ((taliklaw03_known.f kj68).bind fun t465 => (some t465)) = some r := by rw [if_neg (show ¬ (false = true) by decide)] at H; exact H
                                        clear H
                                        have H := H1
                                        clear H1
                                        replace H := Option.bind_eq_some_iff.mp H
                                        obtain ⟨t465, A930, H⟩ := H
                                        replace H : (some t465) = some r := H
                                        have A93 := Aside0.mk A930
                                        clear A930
                                        obtain rfl := Option.some.inj H
                                        have hcz94_0 : wc.cell? ⟨gb442, 0, none⟩ = some (.slice A0_0 l0_0.length c0_0) := (blk_cell BK442.out 0).trans rfl
                                        have hcz94_1 : wc.cell? ⟨gb442, 1, none⟩ = some (.slice A0_1 l0_1.length c0_1) := (blk_cell BK442.out 1).trans rfl
                                        have hfz94_0 := blk_frozen BK442.out 0
                                        have hfz94_1 := blk_frozen BK442.out 1
                                        go_wp2_with (first | ((with_reducible refine gate_callee (f := 21) rfl ?_); refine goesL_ (some 123) rfl rfl Try.func21 (by kernel_rfl) rfl #[.agg #[.slice A0_0 l0_0.length c0_0, .slice A0_1 l0_1.length c0_1], .slice A2 l2.length c2] rfl (by (try simp only [List.map_toArray, List.map_cons, List.map_nil]); first | done | rfl | (simp only [List.length_drop, List.length_take]; rfl)) ?_; (with_reducible refine (talikref03_Cost.calls kj68 _ _ l0_0 _ _ l0_1 _ _ l2 t461 _ ?side1 ?side2 ?side3 ?side4 ?side5 ?side6 A75.out).mono ?_); (case side1 => repeat (first | exact (Kd.C_below HR0_0.out HB.out) | (with_reducible refine Kd.C_alloc ?_ _) | (with_reducible refine Kd.C_drewN ?_ _) | (with_reducible refine Kd.C_drew ?_))); (case side2 => exact HC0_0.out); (case side3 => repeat (first | exact (Kd.C_below HR0_1.out HB.out) | (with_reducible refine Kd.C_alloc ?_ _) | (with_reducible refine Kd.C_drewN ?_ _) | (with_reducible refine Kd.C_drew ?_))); (case side4 => exact HC0_1.out); (case side5 => repeat (first | exact (Kd.C_below HR2.out HB.out) | (with_reducible refine Kd.C_alloc ?_ _) | (with_reducible refine Kd.C_drewN ?_ _) | (with_reducible refine Kd.C_drew ?_))); (case side6 => exact HC2.out); rintro e w95 ⟨rfl, hb⟩; refine ⟨_, rfl, ?_⟩; have n0_ := Aside0.mk (Kd.R_below (by (with_reducible repeat (first | apply Kd.R_alloc | apply Kd.R_drewN | apply Kd.R_drew)); exact HO_7.out) hb); have n1_ := Aside0.mk (blk_below (g := gb442) (o := .cells #[.slice A0_0 l0_0.length c0_0, .slice A0_1 l0_1.length c0_1] 25 (0, 0)) (by (with_reducible repeat (first | refine blk_drewN ?_ _ | refine blk_drew ?_ | refine blk_alloc ?_ _)); exact BK442.out) hb); have n2_ := Aside0.mk (below_step (by repeat (first | (with_reducible first | exact HB.out | apply below_alloc | apply pw_below_drewN | apply below_drew1 | refine below_set ?_ GE442.out) | exact HB.out)) hb); clear HO_7; clear BK442; clear HB; have HO_7 := n0_; have BK442 := n1_; have HB := n2_; clear n0_ n1_ n2_; (try clear hb); (try clear hb2); (try clear hk); (try clear hi)) | (go_at_call 25; (with_reducible refine (talikref03_Before.calls kj68 _ _ l2 _ _ t447 false _ ?side1 ?side2 ?side3 ?side4 A89.out).mono ?_); (case side1 => repeat (first | exact (Kd.C_below HR2.out HB.out) | (with_reducible refine Kd.C_alloc ?_ _) | (with_reducible refine Kd.C_drewN ?_ _) | (with_reducible refine Kd.C_drew ?_))); (case side2 => exact HC2.out); (case side3 => repeat (first | exact (Kd.R_reads' HO_7.out).2.2 | (with_reducible refine Kd.C_alloc ?_ _) | (with_reducible refine Kd.C_drewN ?_ _) | (with_reducible refine Kd.C_drew ?_))); (case side4 => exact (Kd.R_reads' HO_7.out).2.1); rintro e w' ⟨rfl, ⟨nd, rfl⟩⟩) | (go_at_call 14; (with_reducible refine (taliklaw03_known.calls kj68  t465 _ A93.out).mono ?_); rintro e w96 ⟨rfl, hb⟩; have n0_ := Aside0.mk (Kd.R_below (by (with_reducible repeat (first | apply Kd.R_alloc | apply Kd.R_drewN | apply Kd.R_drew)); exact HO_7.out) hb); have n1_ := Aside0.mk (blk_below (g := gb442) (o := .cells #[.slice A0_0 l0_0.length c0_0, .slice A0_1 l0_1.length c0_1] 25 (0, 0)) (by (with_reducible repeat (first | refine blk_drewN ?_ _ | refine blk_drew ?_ | refine blk_alloc ?_ _)); exact BK442.out) hb); have n2_ := Aside0.mk (below_step (by repeat (first | (with_reducible first | exact HB.out | apply below_alloc | apply pw_below_drewN | apply below_drew1 | refine below_set ?_ GE442.out) | exact HB.out)) hb); clear HO_7; clear BK442; clear HB; have HO_7 := n0_; have BK442 := n1_; have HB := n2_; clear n0_ n1_ n2_; (try clear hb); (try clear hb2); (try clear hk); (try clear hi)))
                                        go_ret
                                        exact ⟨by first | rfl | (simp [errW_none, errW_some] <;> rfl) | (simp [*, errW_none, errW_some] <;> rfl), by repeat (first | (with_reducible first | exact HB.out | apply below_alloc | apply pw_below_drewN | apply below_drew1 | refine below_set ?_ GE442.out) | exact HB.out)⟩
                                    · rw [if_neg c88] at H
                                      have c88b0 : ((l2.length : Int) == (t447.length : Int)) = false := beq_eq_false_iff_ne.mpr c88
                                      have c88b1 : ((l2.length : Int) != (t447.length : Int)) = true := bne_iff_ne.mpr c88
                                      have c88b2 : (l2.length == t447.length) = false := by first | simpa using c88 | (simp at c88 ⊢; omega)
                                      obtain rfl := Option.some.inj H
                                      have hcz97_0 : wc.cell? ⟨gb442, 0, none⟩ = some (.slice A0_0 l0_0.length c0_0) := (blk_cell BK442.out 0).trans rfl
                                      have hcz97_1 : wc.cell? ⟨gb442, 1, none⟩ = some (.slice A0_1 l0_1.length c0_1) := (blk_cell BK442.out 1).trans rfl
                                      have hfz97_0 := blk_frozen BK442.out 0
                                      have hfz97_1 := blk_frozen BK442.out 1
                                      go_wp2_with (first | ((with_reducible refine gate_callee (f := 21) rfl ?_); refine goesL_ (some 123) rfl rfl Try.func21 (by kernel_rfl) rfl #[.agg #[.slice A0_0 l0_0.length c0_0, .slice A0_1 l0_1.length c0_1], .slice A2 l2.length c2] rfl (by (try simp only [List.map_toArray, List.map_cons, List.map_nil]); first | done | rfl | (simp only [List.length_drop, List.length_take]; rfl)) ?_; (with_reducible refine (talikref03_Cost.calls kj68 _ _ l0_0 _ _ l0_1 _ _ l2 t461 _ ?side1 ?side2 ?side3 ?side4 ?side5 ?side6 A75.out).mono ?_); (case side1 => repeat (first | exact (Kd.C_below HR0_0.out HB.out) | (with_reducible refine Kd.C_alloc ?_ _) | (with_reducible refine Kd.C_drewN ?_ _) | (with_reducible refine Kd.C_drew ?_))); (case side2 => exact HC0_0.out); (case side3 => repeat (first | exact (Kd.C_below HR0_1.out HB.out) | (with_reducible refine Kd.C_alloc ?_ _) | (with_reducible refine Kd.C_drewN ?_ _) | (with_reducible refine Kd.C_drew ?_))); (case side4 => exact HC0_1.out); (case side5 => repeat (first | exact (Kd.C_below HR2.out HB.out) | (with_reducible refine Kd.C_alloc ?_ _) | (with_reducible refine Kd.C_drewN ?_ _) | (with_reducible refine Kd.C_drew ?_))); (case side6 => exact HC2.out); rintro e w98 ⟨rfl, hb⟩; refine ⟨_, rfl, ?_⟩; have n0_ := Aside0.mk (Kd.R_below (by (with_reducible repeat (first | apply Kd.R_alloc | apply Kd.R_drewN | apply Kd.R_drew)); exact HO_7.out) hb); have n1_ := Aside0.mk (blk_below (g := gb442) (o := .cells #[.slice A0_0 l0_0.length c0_0, .slice A0_1 l0_1.length c0_1] 25 (0, 0)) (by (with_reducible repeat (first | refine blk_drewN ?_ _ | refine blk_drew ?_ | refine blk_alloc ?_ _)); exact BK442.out) hb); have n2_ := Aside0.mk (below_step (by repeat (first | (with_reducible first | exact HB.out | apply below_alloc | apply pw_below_drewN | apply below_drew1 | refine below_set ?_ GE442.out) | exact HB.out)) hb); clear HO_7; clear BK442; clear HB; have HO_7 := n0_; have BK442 := n1_; have HB := n2_; clear n0_ n1_ n2_; (try clear hb); (try clear hb2); (try clear hk); (try clear hi)))
                                      go_ret
                                      exact ⟨by first | rfl | (simp [errW_none, errW_some] <;> rfl) | (simp [*, errW_none, errW_some] <;> rfl), by repeat (first | (with_reducible first | exact HB.out | apply below_alloc | apply pw_below_drewN | apply below_drew1 | refine below_set ?_ GE442.out) | exact HB.out)⟩
                                · rw [if_neg c82] at H
                                  have c82b0 : (t461 == t450) = false := beq_eq_false_iff_ne.mpr c82
                                  have c82b1 : (t461 != t450) = true := bne_iff_ne.mpr c82
                                  obtain rfl := Option.some.inj H
                                  have hcz99_0 : wc.cell? ⟨gb442, 0, none⟩ = some (.slice A0_0 l0_0.length c0_0) := (blk_cell BK442.out 0).trans rfl
                                  have hcz99_1 : wc.cell? ⟨gb442, 1, none⟩ = some (.slice A0_1 l0_1.length c0_1) := (blk_cell BK442.out 1).trans rfl
                                  have hfz99_0 := blk_frozen BK442.out 0
                                  have hfz99_1 := blk_frozen BK442.out 1
                                  go_wp2_with (first | ((with_reducible refine gate_callee (f := 21) rfl ?_); refine goesL_ (some 123) rfl rfl Try.func21 (by kernel_rfl) rfl #[.agg #[.slice A0_0 l0_0.length c0_0, .slice A0_1 l0_1.length c0_1], .slice A2 l2.length c2] rfl (by (try simp only [List.map_toArray, List.map_cons, List.map_nil]); first | done | rfl | (simp only [List.length_drop, List.length_take]; rfl)) ?_; (with_reducible refine (talikref03_Cost.calls kj68 _ _ l0_0 _ _ l0_1 _ _ l2 t461 _ ?side1 ?side2 ?side3 ?side4 ?side5 ?side6 A75.out).mono ?_); (case side1 => repeat (first | exact (Kd.C_below HR0_0.out HB.out) | (with_reducible refine Kd.C_alloc ?_ _) | (with_reducible refine Kd.C_drewN ?_ _) | (with_reducible refine Kd.C_drew ?_))); (case side2 => exact HC0_0.out); (case side3 => repeat (first | exact (Kd.C_below HR0_1.out HB.out) | (with_reducible refine Kd.C_alloc ?_ _) | (with_reducible refine Kd.C_drewN ?_ _) | (with_reducible refine Kd.C_drew ?_))); (case side4 => exact HC0_1.out); (case side5 => repeat (first | exact (Kd.C_below HR2.out HB.out) | (with_reducible refine Kd.C_alloc ?_ _) | (with_reducible refine Kd.C_drewN ?_ _) | (with_reducible refine Kd.C_drew ?_))); (case side6 => exact HC2.out); rintro e w100 ⟨rfl, hb⟩; refine ⟨_, rfl, ?_⟩; have n0_ := Aside0.mk (Kd.R_below (by (with_reducible repeat (first | apply Kd.R_alloc | apply Kd.R_drewN | apply Kd.R_drew)); exact HO_7.out) hb); have n1_ := Aside0.mk (blk_below (g := gb442) (o := .cells #[.slice A0_0 l0_0.length c0_0, .slice A0_1 l0_1.length c0_1] 25 (0, 0)) (by (with_reducible repeat (first | refine blk_drewN ?_ _ | refine blk_drew ?_ | refine blk_alloc ?_ _)); exact BK442.out) hb); have n2_ := Aside0.mk (below_step (by repeat (first | (with_reducible first | exact HB.out | apply below_alloc | apply pw_below_drewN | apply below_drew1 | refine below_set ?_ GE442.out) | exact HB.out)) hb); clear HO_7; clear BK442; clear HB; have HO_7 := n0_; have BK442 := n1_; have HB := n2_; clear n0_ n1_ n2_; (try clear hb); (try clear hb2); (try clear hk); (try clear hi)))
                                  go_ret
                                  exact ⟨by first | rfl | (simp [errW_none, errW_some] <;> rfl) | (simp [*, errW_none, errW_some] <;> rfl), by repeat (first | (with_reducible first | exact HB.out | apply below_alloc | apply pw_below_drewN | apply below_drew1 | refine below_set ?_ GE442.out) | exact HB.out)⟩
                            · replace c76 := Bool.eq_false_iff.mpr c76
                              subst c76
                              have H1 : ((taliklaw03_known.f kj68).bind fun t466 => (some t466)) = some r := by rw [if_neg (show ¬ (false = true) by decide)] at H; exact H
                              clear H
                              have H := H1
                              clear H1
                              replace H := Option.bind_eq_some_iff.mp H
                              obtain ⟨t466, A1010, H⟩ := H
                              replace H : (some t466) = some r := H
                              have A101 := Aside0.mk A1010
                              clear A1010
                              obtain rfl := Option.some.inj H
                              have hcz102_0 : wc.cell? ⟨gb442, 0, none⟩ = some (.slice A0_0 l0_0.length c0_0) := (blk_cell BK442.out 0).trans rfl
                              have hcz102_1 : wc.cell? ⟨gb442, 1, none⟩ = some (.slice A0_1 l0_1.length c0_1) := (blk_cell BK442.out 1).trans rfl
                              have hfz102_0 := blk_frozen BK442.out 0
                              have hfz102_1 := blk_frozen BK442.out 1
                              go_wp2_with (first | ((with_reducible refine gate_callee (f := 21) rfl ?_); refine goesL_ (some 123) rfl rfl Try.func21 (by kernel_rfl) rfl #[.agg #[.slice A0_0 l0_0.length c0_0, .slice A0_1 l0_1.length c0_1], .slice A2 l2.length c2] rfl (by (try simp only [List.map_toArray, List.map_cons, List.map_nil]); first | done | rfl | (simp only [List.length_drop, List.length_take]; rfl)) ?_; (with_reducible refine (talikref03_Cost.calls kj68 _ _ l0_0 _ _ l0_1 _ _ l2 t461 _ ?side1 ?side2 ?side3 ?side4 ?side5 ?side6 A75.out).mono ?_); (case side1 => repeat (first | exact (Kd.C_below HR0_0.out HB.out) | (with_reducible refine Kd.C_alloc ?_ _) | (with_reducible refine Kd.C_drewN ?_ _) | (with_reducible refine Kd.C_drew ?_))); (case side2 => exact HC0_0.out); (case side3 => repeat (first | exact (Kd.C_below HR0_1.out HB.out) | (with_reducible refine Kd.C_alloc ?_ _) | (with_reducible refine Kd.C_drewN ?_ _) | (with_reducible refine Kd.C_drew ?_))); (case side4 => exact HC0_1.out); (case side5 => repeat (first | exact (Kd.C_below HR2.out HB.out) | (with_reducible refine Kd.C_alloc ?_ _) | (with_reducible refine Kd.C_drewN ?_ _) | (with_reducible refine Kd.C_drew ?_))); (case side6 => exact HC2.out); rintro e w103 ⟨rfl, hb⟩; refine ⟨_, rfl, ?_⟩; have n0_ := Aside0.mk (Kd.R_below (by (with_reducible repeat (first | apply Kd.R_alloc | apply Kd.R_drewN | apply Kd.R_drew)); exact HO_7.out) hb); have n1_ := Aside0.mk (blk_below (g := gb442) (o := .cells #[.slice A0_0 l0_0.length c0_0, .slice A0_1 l0_1.length c0_1] 25 (0, 0)) (by (with_reducible repeat (first | refine blk_drewN ?_ _ | refine blk_drew ?_ | refine blk_alloc ?_ _)); exact BK442.out) hb); have n2_ := Aside0.mk (below_step (by repeat (first | (with_reducible first | exact HB.out | apply below_alloc | apply pw_below_drewN | apply below_drew1 | refine below_set ?_ GE442.out) | exact HB.out)) hb); clear HO_7; clear BK442; clear HB; have HO_7 := n0_; have BK442 := n1_; have HB := n2_; clear n0_ n1_ n2_; (try clear hb); (try clear hb2); (try clear hk); (try clear hi)) | (go_at_call 14; (with_reducible refine (taliklaw03_known.calls kj68  t466 _ A101.out).mono ?_); rintro e w104 ⟨rfl, hb⟩; have n0_ := Aside0.mk (Kd.R_below (by (with_reducible repeat (first | apply Kd.R_alloc | apply Kd.R_drewN | apply Kd.R_drew)); exact HO_7.out) hb); have n1_ := Aside0.mk (blk_below (g := gb442) (o := .cells #[.slice A0_0 l0_0.length c0_0, .slice A0_1 l0_1.length c0_1] 25 (0, 0)) (by (with_reducible repeat (first | refine blk_drewN ?_ _ | refine blk_drew ?_ | refine blk_alloc ?_ _)); exact BK442.out) hb); have n2_ := Aside0.mk (below_step (by repeat (first | (with_reducible first | exact HB.out | apply below_alloc | apply pw_below_drewN | apply below_drew1 | refine below_set ?_ GE442.out) | exact HB.out)) hb); clear HO_7; clear BK442; clear HB; have HO_7 := n0_; have BK442 := n1_; have HB := n2_; clear n0_ n1_ n2_; (try clear hb); (try clear hb2); (try clear hk); (try clear hi)))
                              go_ret
                              exact ⟨by first | rfl | (simp [errW_none, errW_some] <;> rfl) | (simp [*, errW_none, errW_some] <;> rfl), by repeat (first | (with_reducible first | exact HB.out | apply below_alloc | apply pw_below_drewN | apply below_drew1 | refine below_set ?_ GE442.out) | exact HB.out)⟩
              · rw [if_neg c42] at H
                have c42b0 : (t451 == 0) = false := beq_eq_false_iff_ne.mpr c42
                have c42b1 : (t451 != 0) = true := bne_iff_ne.mpr c42
                by_cases c105 : t451 = 5
                · rw [if_pos c105] at H
                  have c105b0 : (t451 == 5) = true := beq_iff_eq.mpr c105
                  have c105b1 : (t451 != 5) = false := bne_eq_false_iff_eq.mpr c105
                  clear c105
                  by_cases c106 : t454 = true
                  · subst c106
                    have H1 : (some false) = some r := by rw [if_pos rfl] at H; exact H
                    clear H
                    have H := H1
                    clear H1
                    obtain rfl := Option.some.inj H
                    go_wp2
                    go_ret
                    exact ⟨by first | rfl | (simp [errW_none, errW_some] <;> rfl) | (simp [*, errW_none, errW_some] <;> rfl), by repeat (first | (with_reducible first | exact HB.out | apply below_alloc | apply pw_below_drewN | apply below_drew1 | refine below_set ?_ GE442.out) | exact HB.out)⟩
                  · replace c106 := Bool.eq_false_iff.mpr c106
                    subst c106
                    have H1 : ((taliklaw03_known.f kj29).bind fun t456 => (some t456)) = some r := by rw [if_neg (show ¬ (false = true) by decide)] at H; exact H
                    clear H
                    have H := H1
                    clear H1
                    replace H := Option.bind_eq_some_iff.mp H
                    obtain ⟨t456, A1070, H⟩ := H
                    replace H : (some t456) = some r := H
                    have A107 := Aside0.mk A1070
                    clear A1070
                    obtain rfl := Option.some.inj H
                    go_wp2_with (first | (go_at_call 14; (with_reducible refine (taliklaw03_known.calls kj29  t456 _ A107.out).mono ?_); rintro e w108 ⟨rfl, hb⟩; have n0_ := Aside0.mk (Kd.R_below (by (with_reducible repeat (first | apply Kd.R_alloc | apply Kd.R_drewN | apply Kd.R_drew)); exact HO_7.out) hb); have n1_ := Aside0.mk (blk_below (g := gb442) (o := .cells #[.slice A0_0 l0_0.length c0_0, .slice A0_1 l0_1.length c0_1] 25 (0, 0)) (by (with_reducible repeat (first | refine blk_drewN ?_ _ | refine blk_drew ?_ | refine blk_alloc ?_ _)); exact BK442.out) hb); have n2_ := Aside0.mk (below_step (by repeat (first | (with_reducible first | exact HB.out | apply below_alloc | apply pw_below_drewN | apply below_drew1 | refine below_set ?_ GE442.out) | exact HB.out)) hb); clear HO_7; clear BK442; clear HB; have HO_7 := n0_; have BK442 := n1_; have HB := n2_; clear n0_ n1_ n2_; (try clear hb); (try clear hb2); (try clear hk); (try clear hi)))
                    go_ret
                    exact ⟨by first | rfl | (simp [errW_none, errW_some] <;> rfl) | (simp [*, errW_none, errW_some] <;> rfl), by repeat (first | (with_reducible first | exact HB.out | apply below_alloc | apply pw_below_drewN | apply below_drew1 | refine below_set ?_ GE442.out) | exact HB.out)⟩
                · rw [if_neg c105] at H
                  have c105b0 : (t451 == 5) = false := beq_eq_false_iff_ne.mpr c105
                  have c105b1 : (t451 != 5) = true := bne_iff_ne.mpr c105
                  obtain rfl := Option.some.inj H
                  go_wp2
                  go_ret
                  exact ⟨by first | rfl | (simp [errW_none, errW_some] <;> rfl) | (simp [*, errW_none, errW_some] <;> rfl), by repeat (first | (with_reducible first | exact HB.out | apply below_alloc | apply pw_below_drewN | apply below_drew1 | refine below_set ?_ GE442.out) | exact HB.out)⟩
end Go.Proofs.Ytmkdllaagaimlaa.C
end
section
namespace Go.Proofs.Ytmkdllaagaimlaa.C
open Go.RowKit Go.Proofs.YtmkdllaagaimlaaW.PrintWords Go.Proofs.YtmkdllaagaimlaaW.PrintLast Go.Proofs.YtmkdllaagaimlaaW.PrintMore
set_option linter.unusedVariables false
set_option linter.unusedSimpArgs false
theorem Fails_ev (n : Int) : Ev (fun (_ : Nat) => talikref03_Fails.f n) (decide (0 ≤ n) && decide (n ≤ 3)) := ⟨0, fun _ _ => by
  show talikref03_Fails.f n = _
  unfold talikref03_Fails.f; rw [in_f]; rfl⟩
theorem cost_l0 {H : List S60} {S : List S64} (hv : validB H S = true) (l : List Int) (hl : l.length ≤ 1000) (hb : ∀ x ∈ l, 0 ≤ x ∧ x < S.length) : ∀ d i : Nat, i + d = l.length → Ev (fun k => talikref03_Cost.l0 k l (costN S (l.take i)) i H S) (costN S l) := by
  have hbd : ∀ i : Nat, 0 ≤ costN S (l.take i) ∧ costN S (l.take i) ≤ 1000000000 := by
    intro i
    have h2 := sum_bd (l := l.take i) (f := fun x => (rd_T64 S x).f0) (m := 1000000) (fun x hx => by
      have hx' := hb x (List.mem_of_mem_take hx)
      obtain ⟨n, rfl⟩ := Int.eq_ofNat_of_zero_le hx'.1
      rw [rd64_at (by omega)]
      have := (valid_more hv).2.2 (S[n]'(by omega)) (List.getElem_mem _)
      omega)
    have h3 : (l.take i).length ≤ 1000 := by rw [List.length_take]; omega
    unfold costN
    have h4 : (1000000 : Int) * ((l.take i).length : Int) ≤ 1000000000 := by omega
    omega
  intro d
  induction d with
  | zero =>
    intro i hi
    rw [List.take_of_length_le (by omega)]
    refine Ev.step (f := fun _ => some (costN S l)) (fun k => ?_) (Ev.now _)
    simp only [talikref03_Cost.l0]; rw [if_neg (by omega)]
  | succ d ih =>
    intro i hi
    have hlt : i < l.length := by omega
    have hx := hb l[i] (List.getElem_mem hlt)
    obtain ⟨n, hn⟩ := Int.eq_ofNat_of_zero_le hx.1
    have hnS : n < S.length := by omega
    refine Ev.step (f := fun k => talikref03_Cost.l0 k l (costN S (l.take (i + 1))) ((i + 1 : Nat) : Int) H S) (fun k => ?_) (ih (i + 1) (by omega))
    have h1 := hbd i
    have h2 := (valid_more hv).2.2 (S[n]'hnS) (List.getElem_mem _)
    have e : costN S (l.take (i + 1)) = costN S (l.take i) + (S[n]'hnS).f0 := by
      unfold costN
      rw [List.take_succ_eq_append_getElem hlt, List.map_append, List.sum_append, hn]
      simp only [List.map_cons, List.map_nil, List.sum_cons, List.sum_nil]
      rw [rd64_at hnS]; omega
    simp only [talikref03_Cost.l0]
    rw [if_pos (by omega), if_pos (by omega), rd_at hlt, hn, if_pos (by omega), if_pos (by omega), rd64_at hnS, w1 (by omega), wrap64_of _ (by omega) (by omega), e]
theorem Cost_ev {H : List S60} {S : List S64} (hv : validB H S = true) (l : List Int) (hl : l.length ≤ 1000) (hb : ∀ x ∈ l, 0 ≤ x ∧ x < S.length) : Ev (fun k => talikref03_Cost.f k H S l) (costN S l) := by
  have := cost_l0 hv l hl hb l.length 0 (by omega)
  simpa [talikref03_Cost.f, costN] using this
theorem cmpI_neg (a b : Int) : cmpI a b < 0 ↔ a < b := by unfold cmpI; split <;> (try split) <;> omega
theorem cmpI_zero (a b : Int) : cmpI a b = 0 ↔ a = b := by unfold cmpI; split <;> (try split) <;> omega
theorem before_l0 (a b : List Int) (ha : a.length ≤ 1000) (hab : a.length = b.length) : ∀ d i : Nat, i + d = a.length → Ev (fun k => talikref03_Before.l0 k a b i) (decide (cmpL (a.drop i) (b.drop i) < 0)) := by
  intro d
  induction d with
  | zero =>
    intro i hi
    rw [List.drop_eq_nil_of_le (show a.length ≤ i by omega), List.drop_eq_nil_of_le (show b.length ≤ i by omega)]
    refine Ev.step (f := fun k => talikref03_Before.j1 k a b i false) (fun k => ?_) (Ev.step (f := fun _ => some false) (fun k => ?_) (by simp [cmpL]; exact Ev.now _))
    · simp only [talikref03_Before.l0]; rw [if_neg (by omega)]
    · simp only [talikref03_Before.j1]; rw [if_neg (by simp)]
  | succ d ih =>
    intro i hi
    have hlt : i < a.length := by omega
    obtain ⟨x, hx, hd⟩ := drop_at hlt
    obtain ⟨y, hy, he⟩ := drop_at (l := b) (i := i) (by omega)
    rw [hd, he]
    refine Ev.step (f := fun k => talikref03_Before.j1 k a b i true) (fun k => ?_) ?_
    · simp only [talikref03_Before.l0]; rw [if_pos (by omega), decide_eq_true (by omega)]
    · by_cases hxy : x = y
      · refine Ev.step (f := fun k => talikref03_Before.l0 k a b ((i + 1 : Nat) : Int)) (fun k => ?_) ?_
        · simp only [talikref03_Before.j1]; rw [if_pos trivial, if_pos (by omega), if_pos (by omega), if_pos (by omega), hx, hy, if_pos hxy, w1 (by omega)]
        · have e : cmpL (x :: a.drop (i + 1)) (y :: b.drop (i + 1)) = cmpL (a.drop (i + 1)) (b.drop (i + 1)) := by
            simp only [cmpL]; rw [if_pos ((cmpI_zero x y).2 hxy)]
          rw [e]; exact ih (i + 1) (by omega)
      · refine Ev.step (f := fun _ => some (decide (x < y))) (fun k => ?_) ?_
        · simp only [talikref03_Before.j1]; rw [if_pos trivial, if_pos (by omega), if_pos (by omega), if_pos (by omega), hx, hy, if_neg hxy]
        · have e : decide (cmpL (x :: a.drop (i + 1)) (y :: b.drop (i + 1)) < 0) = decide (x < y) := by
            rw [decide_eq_decide]; simp only [cmpL]; rw [if_neg (fun h => hxy ((cmpI_zero x y).1 h))]; exact cmpI_neg x y
          rw [e]; exact Ev.now _
theorem Before_ev (a b : List Int) (ha : a.length ≤ 1000) (hab : a.length = b.length) : Ev (fun k => talikref03_Before.f k a b) (decide (cmpL a b < 0)) := by
  have := before_l0 a b ha hab a.length 0 (by omega)
  simpa [talikref03_Before.f] using this
theorem cmpL_trans : ∀ (l m r : List Int), cmpL l m < 0 → cmpL m r < 0 → cmpL l r < 0
  | [], [], _, h, _ => by simp [cmpL] at h
  | [], _ :: _, [], _, h => by simp [cmpL] at h
  | [], _ :: _, _ :: _, _, _ => by simp [cmpL]
  | _ :: _, [], _, h, _ => by simp [cmpL] at h
  | _ :: _, _ :: _, [], _, h => by simp [cmpL] at h
  | a :: l, b :: m, c :: r, h1, h2 => by
    simp only [cmpL] at h1 h2 ⊢
    by_cases hab : a = b
    · subst hab
      rw [if_pos ((cmpI_zero a a).2 rfl)] at h1
      by_cases hac : a = c
      · subst hac
        rw [if_pos ((cmpI_zero a a).2 rfl)] at h2 ⊢
        exact cmpL_trans l m r h1 h2
      · rw [if_neg (fun h => hac ((cmpI_zero a c).1 h))] at h2 ⊢
        exact h2
    · rw [if_neg (fun h => hab ((cmpI_zero a b).1 h)), cmpI_neg] at h1
      by_cases hbc : b = c
      · subst hbc
        rw [if_neg (fun h => hab ((cmpI_zero a b).1 h)), cmpI_neg]; exact h1
      · rw [if_neg (fun h => hbc ((cmpI_zero b c).1 h)), cmpI_neg] at h2
        rw [if_neg (fun h => by have := (cmpI_zero a c).1 h; omega), cmpI_neg]; omega
def bef (a : Int) (l : List Int) (b : Int) (m : List Int) : Prop := a < b ∨ (a = b ∧ (l.length < m.length ∨ (l.length = m.length ∧ cmpL l m < 0)))
theorem beforeB_iff (a : Int) (l : List Int) (b : Int) (m : List Int) : beforeB a l b m = true ↔ bef a l b m := by
  unfold beforeB bef
  simp only [bfF, cmC]
  by_cases h1 : cmpI a b = 0
  · rw [if_pos h1]
    have e1 := (cmpI_zero a b).1 h1
    by_cases h2 : cmpI (l.length : Int) (m.length : Int) = 0
    · rw [if_pos h2]
      have e2 := (cmpI_zero _ _).1 h2
      by_cases h3 : cmpL l m = 0
      · rw [if_pos h3]; simp; omega
      · rw [if_neg h3]; simp only [decide_eq_true_eq]; omega
    · rw [if_neg h2, decide_eq_true_eq, cmpI_neg]
      have e2 : ¬ (l.length : Int) = m.length := fun h => h2 ((cmpI_zero _ _).2 h)
      omega
  · rw [if_neg h1, decide_eq_true_eq, cmpI_neg]
    have e1 : ¬ a = b := fun h => h1 ((cmpI_zero _ _).2 h)
    omega
theorem bef_trans {a b c : Int} {l m r : List Int} (h1 : bef a l b m) (h2 : bef b m c r) : bef a l c r := by
  unfold bef at *
  have := cmpL_trans l m r
  omega
theorem cmpL_irr : ∀ l : List Int, ¬ cmpL l l < 0
  | [] => by simp [cmpL]
  | a :: r => by simp only [cmpL]; rw [if_pos ((cmpI_zero a a).2 rfl)]; exact cmpL_irr r
theorem bef_irr {a : Int} {l : List Int} : ¬ bef a l a l := by
  unfold bef
  have := cmpL_irr l
  omega
theorem bestStep_none (H : List S60) (S : List S64) (n s : Nat) : bestStep H S n none s = if (brk H S n s).isSome = true then none else some (costN S (memI s), memI s) := by
  unfold bestStep; simp
theorem bestStep_some (H : List S60) (S : List S64) (n s : Nat) (c : Int) (l : List Int) : bestStep H S n (some (c, l)) s = if beforeB (costN S (memI s)) (memI s) c l = true then (if (brk H S n s).isSome = true then some (c, l) else some (costN S (memI s), memI s)) else some (c, l) := by
  unfold bestStep
  by_cases h : beforeB (costN S (memI s)) (memI s) c l = true
  · rw [if_pos h, if_neg (by dsimp only; rw [h]; simp)]
  · rw [if_neg h, if_pos (by dsimp only; simpa using h)]
def BestOk (H : List S60) (S : List S64) (n N : Nat) : Option (Int × List Int) → Prop
  | none => ∀ s, s < N → (brk H S n s).isSome = true
  | some (c, l) => (∃ s, s < N ∧ l = memI s ∧ c = costN S l ∧ brk H S n s = none) ∧ ∀ s, s < N → brk H S n s = none → ¬ bef (costN S (memI s)) (memI s) c l
theorem best_spec (H : List S60) (S : List S64) (n : Nat) : ∀ N, BestOk H S n N (bestN H S n N) := by
  intro N
  induction N with
  | zero => intro s hs; omega
  | succ N ih =>
    show BestOk H S n (N + 1) (bestStep H S n (bestN H S n N) N)
    cases hb : bestN H S n N with
    | none =>
      rw [hb] at ih
      rw [bestStep_none]
      cases hk : brk H S n N with
      | some h =>
        intro s hs
        rcases Nat.lt_succ_iff_lt_or_eq.1 hs with h | rfl
        · exact ih s h
        · rw [hk]; rfl
      | none =>
        refine ⟨⟨N, Nat.lt_succ_self N, rfl, rfl, hk⟩, fun s hs hks hbef => ?_⟩
        rcases Nat.lt_succ_iff_lt_or_eq.1 hs with h | rfl
        · have := ih s h; rw [hks] at this; cases this
        · exact bef_irr hbef
    | some st =>
      obtain ⟨c, l⟩ := st
      rw [hb] at ih
      obtain ⟨⟨s0, hs0, hl0, hc0, hk0⟩, hmin⟩ := ih
      rw [bestStep_some]
      by_cases hbf : bef (costN S (memI N)) (memI N) c l
      · rw [if_pos ((beforeB_iff _ _ _ _).2 hbf)]
        cases hk : brk H S n N with
        | some h =>
          rw [if_pos (show (some h).isSome = true from rfl)]
          refine ⟨⟨s0, by omega, hl0, hc0, hk0⟩, fun s hs hks => ?_⟩
          rcases Nat.lt_succ_iff_lt_or_eq.1 hs with h | rfl
          · exact hmin s h hks
          · rw [hk] at hks; cases hks
        | none =>
          rw [if_neg (by simp)]
          refine ⟨⟨N, Nat.lt_succ_self N, rfl, rfl, hk⟩, fun s hs hks hbef => ?_⟩
          rcases Nat.lt_succ_iff_lt_or_eq.1 hs with h | rfl
          · exact hmin s h hks (bef_trans hbef hbf)
          · exact bef_irr hbef
      · rw [if_neg (fun h => hbf ((beforeB_iff _ _ _ _).1 h))]
        refine ⟨⟨s0, by omega, hl0, hc0, hk0⟩, fun s hs hks => ?_⟩
        rcases Nat.lt_succ_iff_lt_or_eq.1 hs with h | rfl
        · exact hmin s h hks
        · exact hbf
theorem desc_le : ∀ (A v : List Int), A.Pairwise (· ≥ ·) → v.Sublist A → ∀ f, (∀ x ∈ A, 0 ≤ x) → (v.drop f).sum ≤ ((A.take v.length).drop f).sum
  | [], v, _, hv, f, _ => by rw [List.sublist_nil.1 hv]; simp
  | a :: A, v, hA, hv, f, h0 => by
    have hA' := List.pairwise_cons.1 hA
    have h0' : ∀ x ∈ A, 0 ≤ x := fun x hx => h0 x (by simp [hx])
    cases v with
    | nil => simp
    | cons b v =>
      have key : b ≤ a ∧ v.Sublist A := by
        cases hv with
        | cons _ hv => exact ⟨hA'.1 b (hv.subset (by simp)), (List.sublist_cons_self b v).trans hv⟩
        | cons_cons _ hv => exact ⟨Int.le_refl _, hv⟩
      rw [List.length_cons, List.take_succ_cons]
      cases f with
      | zero =>
        have := desc_le A v hA'.2 key.2 0 h0'
        simp only [List.drop_zero, List.sum_cons] at this ⊢
        omega
      | succ f => exact desc_le A v hA'.2 key.2 f h0'
theorem desc_unique : ∀ (u v : List Int), u.Pairwise (· ≥ ·) → v.Pairwise (· ≥ ·) → u.Perm v → u = v
  | [], v, _, _, h => (List.nil_perm.1 h).symm ▸ rfl
  | a :: u, [], _, _, h => absurd h.length_eq (by simp)
  | a :: u, b :: v, hu, hv, h => by
    have hu' := List.pairwise_cons.1 hu
    have hv' := List.pairwise_cons.1 hv
    have hab : a = b := by
      have h1 := h.subset (show a ∈ a :: u by simp)
      have h2 := h.symm.subset (show b ∈ b :: v by simp)
      rcases List.mem_cons.1 h1 with h1 | h1
      · exact h1
      · rcases List.mem_cons.1 h2 with h2 | h2
        · exact h2.symm
        · have := hv'.1 a h1; have := hu'.1 b h2; omega
    subst hab
    rw [desc_unique u v hu'.2 hv'.2 h.cons_inv]
theorem cold_nonneg {H : List S60} {S : List S64} (hv : validB H S = true) {h : Nat} (hh : h < H.length) {x : Int} (hx : 0 ≤ x ∧ x < S.length) : 0 ≤ cold S h x.toNat := by
  obtain ⟨v1, v2, v3, v4, v5, v6⟩ := valid_facts hv
  exact (v6 h x.toNat hh (by omega)).1
theorem memI_sub {S : List S64} {s : Nat} (hs : s < 2 ^ S.length) : ∀ x ∈ memI s, 0 ≤ x ∧ x < (S.length : Int) := by
  intro x hx
  obtain ⟨h1, h2, h3⟩ := (mem_memI s x).1 hx
  refine ⟨h1, ?_⟩
  rcases Int.lt_or_le x S.length with h | h
  · exact h
  · have : s.testBit x.toNat = false := Nat.testBit_lt_two_pow (Nat.lt_of_lt_of_le hs (Nat.pow_le_pow_right (by decide) (by omega)))
    rw [this] at h3; cases h3
theorem filter_mono {α : Type} {p q : α → Bool} (l : List α) (h : ∀ x, p x = true → q x = true) : (l.filter p).Sublist (l.filter q) := by
  have e : l.filter p = (l.filter q).filter p := by
    rw [List.filter_filter]
    apply List.filter_congr
    intro x _
    cases hp : p x with
    | false => simp
    | true => simp [h x hp]
  rw [e]
  exact List.filter_sublist ..
theorem memI_sublist {S : List S64} (hS : S.length ≤ 10) {s : Nat} (hs : s < 2 ^ S.length) : (memI s).Sublist (memI (2 ^ S.length - 1)) := by
  unfold memI memN
  refine List.Sublist.map _ (filter_mono _ ?_)
  intro i hi
  rw [Nat.testBit_two_pow_sub_one]
  simp only [decide_eq_true_eq]
  rcases Nat.lt_or_ge i S.length with h | h
  · exact h
  · have : s.testBit i = false := Nat.testBit_lt_two_pow (Nat.lt_of_lt_of_le hs (Nat.pow_le_pow_right (by decide) h))
    rw [this] at hi; cases hi
theorem floor_of_level {H : List S60} {S : List S64} (hv : validB H S = true) {h : Nat} (hh : h < H.length) {s f : Nat} (hs : s < 2 ^ S.length) (hl : levelB H S h f s = true) : floorB H S h f (memI s).length (2 ^ S.length - 1) = true := by
  obtain ⟨v1, v2, v3, v4, v5, v6⟩ := valid_facts hv
  unfold levelB at hl
  unfold floorB
  rw [decide_eq_true_eq] at hl ⊢
  have hA := isorted_desc ((memI (2 ^ S.length - 1)).map fun x => cold S h x.toNat)
  have hPA := isorted_perm ((memI (2 ^ S.length - 1)).map fun x => cold S h x.toNat)
  have hPB := isorted_perm ((memI s).map fun x => cold S h x.toNat)
  obtain ⟨v, hv1, hv2⟩ := List.exists_perm_sublist ((memI_sublist v4 hs).map (fun x : Int => cold S h x.toNat)) hPA.symm
  have hvd : v.Pairwise (· ≥ ·) := hA.sublist hv2
  have he : v = colds S h s := desc_unique _ _ hvd (isorted_desc _) (hv1.trans hPB.symm)
  have hlen : v.length = (memI s).length := by rw [hv1.length_eq, List.length_map]
  have := desc_le _ v hA hv2 f (fun x hx => by
    have := hPA.subset hx
    obtain ⟨y, hy, rfl⟩ := List.mem_map.1 this
    exact cold_nonneg hv hh (memI_sub (S := S) (Nat.sub_lt (Nat.two_pow_pos _) (by decide)) y hy))
  rw [hlen] at this
  rw [he] at this
  exact Int.le_trans hl this
theorem brk_no {H : List S60} {S : List S64} {f C : Nat} : brk H S f C = none ↔ ∀ h, h < H.length → levelB H S h f C = true := by
  unfold brk
  rw [List.find?_eq_none]
  simp only [List.mem_range, Bool.not_eq_true', Bool.not_eq_false]
theorem Rivals_fin {H : List S60} {S : List S64} (hv : validB H S = true) (b : List Int) (hb : b.length ≤ 15) (hbS : ∀ x ∈ b, 0 ≤ x ∧ x < (S.length : Int)) (l : List Int) (hl : l.length ≤ 15) (c : Int) (own : Bool) (hmin : own = true → ¬ bef (costN S b) b c l) : Ev (fun k => taliklaw03_CoolRivals.j3 k b l c own false H S) true := by
  refine Ev.step (f := fun k => (talikref03_Cost.f k H S b).bind fun t461 => (if own = true then (if t461 > c then ((taliklaw03_known.f k).bind fun t462 => (some t462)) else (if t461 = c then (if (b.length : Int) > (l.length : Int) then ((taliklaw03_known.f k).bind fun t463 => (some t463)) else (if (b.length : Int) = (l.length : Int) then ((talikref03_Before.f k b l).bind fun t464 => (if t464 = true then (some false) else ((taliklaw03_known.f k).bind fun t465 => (some t465)))) else (some false))) else (some false))) else ((taliklaw03_known.f k).bind fun t466 => (some t466)))) (fun k => ?_) ?_
  · simp only [taliklaw03_CoolRivals.j3]; rw [if_neg (by simp)]
  · refine Ev.bind (Cost_ev hv b (by omega) hbS) ?_
    cases own with
    | false => simpa using known_ev'
    | true =>
      have hm := hmin rfl
      unfold bef at hm
      by_cases h1 : costN S b > c
      · simpa [h1] using known_ev'
      · have h2 : costN S b = c := by omega
        by_cases h3 : b.length > l.length
        · have h3' : (b.length : Int) > (l.length : Int) := by omega
          simpa [h1, h2, h3'] using known_ev'
        · have h4 : b.length = l.length := by omega
          have h5 : ¬ cmpL b l < 0 := by omega
          have hB := Before_ev b l (by omega) h4
          rw [decide_eq_false h5] at hB
          have h3' : ¬ (b.length : Int) > (l.length : Int) := by omega
          have h4' : (b.length : Int) = (l.length : Int) := by omega
          simp only [h1, h2, h3', h4', if_true, if_false]
          have : Ev (fun k => (talikref03_Before.f k b l).bind fun t464 => (if t464 = true then (some false) else ((taliklaw03_known.f k).bind fun t465 => (some t465)))) true := Ev.bind hB (by simpa using known_ev')
          refine Ev.congr (fun k => ?_) this
          rw [if_neg (by omega), if_neg (by omega)]
theorem CoolRivals_pure (H : List S60) (S : List S64) (a1 : Int) (b : List Int) (hH : H.length ≤ 9223372036854775807) (hS : S.length ≤ 9223372036854775807) (hG : ∀ s ∈ S, s.f2.length ≤ 9223372036854775807) (_ : (Lit.int .i64 a1).wf = true) (hb : b.length ≤ 9223372036854775807) : Ev (fun k => taliklaw03_CoolRivals.f k H S a1 b) true := by
  have hj1 : Ev (fun k => taliklaw03_CoolRivals.j0 k a1 b true H S) true :=
    Ev.step (f := fun k => (taliklaw03_known.f k).bind fun t => some t) (fun k => by simp only [taliklaw03_CoolRivals.j0]; rw [if_pos trivial]) known_ev'
  unfold taliklaw03_CoolRivals.f
  refine Ev.bind (short_ev H S hS) ?_
  cases hsh : shortB H S with
  | false => simpa using hj1
  | true =>
    simp only [if_true]
    by_cases hb15 : 15 < b.length
    · refine Ev.congr (fun k => ?_) hj1; rw [if_pos (by omega)]
    · refine Ev.congr (f := fun k => (taliklaw03_asked.f k H S b).bind fun t444 => (if t444 = true then ((talikref03_Fails.f a1).bind fun t445 => (taliklaw03_CoolRivals.j0 k a1 b (!t445) H S)) else (taliklaw03_CoolRivals.j0 k a1 b true H S))) (fun k => by rw [if_neg (by omega)]) ?_
      refine Ev.bind (asked_ev H S b hH hS hG hb) ?_
      cases ha : askedB H S b with
      | false => simpa using hj1
      | true =>
        simp only [if_true]
        refine Ev.bind (Fails_ev a1) ?_
        cases hf : (decide (0 ≤ a1) && decide (a1 ≤ 3)) with
        | false => simpa using hj1
        | true =>
          unfold askedB at ha
          rw [Bool.and_eq_true] at ha
          obtain ⟨hv, hi⟩ := ha
          obtain ⟨v1, v2, v3, v4, v5, v6⟩ := valid_facts hv
          have hbS : ∀ x ∈ b, 0 ≤ x ∧ x < (S.length : Int) := fun x hx => (incr_lt hi x hx).2
          have hb10 : ∀ x ∈ b, 0 ≤ x ∧ x < 10 := fun x hx => by have := hbS x hx; omega
          have hmb : memI (maskN b) = b := memI_mask (incr_sorted hi) hb10
          have hmlt := incr_mask (m := S.length) hi
          have hgo : ∀ l : List Int, incr S.length (-1) l = true → givenO H S l true = some (maskN l) := fun l hl => by unfold givenO; rw [hv, hl]; rfl
          have hk : keepsV H S b a1 = (!(brk H S a1.toNat (maskN b)).isSome, 0) := by unfold keepsV; rw [hf, hgo b hi]
          have hbv : bestV H S a1 = match bestN H S a1.toNat (2 ^ S.length) with | none => ([], 0, 5) | some (c, l) => (l, c, 0) := by unfold bestV; rw [hv, hf]; rfl
          have hfv : floorV H S a1 = floorG H S a1.toNat := by unfold floorV; rw [hv, hf]; rfl
          have hfloor : ∀ s, s < 2 ^ S.length → brk H S a1.toNat s = none → ∃ n : Nat, floorG H S a1.toNat = ((n : Int), 0) ∧ n ≤ (memI s).length := by
            intro s hs hks
            have hp : ((List.range H.length).all fun h => floorB H S h a1.toNat (memI s).length (2 ^ S.length - 1)) = true := by
              rw [List.all_eq_true]
              intro h hh
              have hh' := List.mem_range.1 hh
              exact floor_of_level hv hh' hs (brk_no.1 hks h hh')
            have hle : (memI s).length ≤ S.length := by
              have := (memI_sublist (S := S) v4 hs).length_le
              rw [memI_full S.length v4] at this
              exact this
            unfold floorG
            cases hfd : (List.range (S.length + 1)).find? (fun n => (List.range H.length).all fun h => floorB H S h a1.toNat n (2 ^ S.length - 1)) with
            | none =>
              rw [List.find?_eq_none] at hfd
              exact absurd hp (hfd _ (List.mem_range.2 (by omega)))
            | some n =>
              refine ⟨n, rfl, ?_⟩
              rcases Nat.lt_or_ge (memI s).length n with h | h
              · exfalso
                obtain ⟨_, as_, bs, he, hno⟩ := List.find?_eq_some_iff_append.1 hfd
                have hlen : as_.length = n := by
                  have h1 : (List.range (S.length + 1))[as_.length]? = some n := by rw [he]; simp
                  have h2 := (List.getElem?_eq_some_iff.1 h1).2
                  simpa using h2
                have hmem : (memI s).length ∈ as_ := by
                  have h1 : (List.range (S.length + 1))[(memI s).length]? = some (memI s).length := by rw [List.getElem?_range (by omega)]
                  rw [he, List.getElem?_append_left (by omega)] at h1
                  exact List.mem_of_getElem? h1
                have := hno _ hmem
                rw [hp] at this
                cases this
              · exact h
          have hspec := best_spec H S a1.toNat (2 ^ S.length)
          simp only [Bool.not_true]
          obtain ⟨own, hown⟩ : ∃ o, (!(brk H S a1.toNat (maskN b)).isSome) = o := ⟨_, rfl⟩
          have hbk : own = true → brk H S a1.toNat (maskN b) = none := fun h => by
            rw [h] at hown
            cases hx : brk H S a1.toNat (maskN b) with
            | none => rfl
            | some _ => rw [hx] at hown; cases hown
          obtain ⟨fl, hfl⟩ : ∃ fl, floorG H S a1.toNat = fl := ⟨_, rfl⟩
          obtain ⟨m, e⟩ := fl
          have h75 : ∀ (L : List Int) (c e2 : Int), Ev (fun k => taliklaw03_CoolRivals.j1 k a1 b L c e2 m e own false H S) true →
              bestV H S a1 = (L, c, e2) → Ev (fun k => taliklaw03_CoolRivals.j0 k a1 b false H S) true := by
            intro L c e2 hj hbst
            refine Ev.step (f := fun k => taliklaw03_CoolRivals.j1 k a1 b L c e2 m e own false H S) (fun k => ?_) hj
            simp only [taliklaw03_CoolRivals.j0, cool_Best.f, cool_Floor.f, cool_Keeps.f, hbst, hfv, hfl, hk, hown, Bool.false_eq_true, if_false, Option.bind_some, if_true]
            cases own with
            | false => simp
            | true =>
              obtain ⟨n, hn1, hn2⟩ := hfloor (maskN b) hmlt (hbk rfl)
              rw [hfl] at hn1
              cases hn1
              rw [hmb] at hn2
              simp only [if_true]
              rw [if_neg (by omega), decide_eq_false (by omega)]
          cases hbn : bestN H S a1.toNat (2 ^ S.length) with
          | none =>
            rw [hbn] at hspec hbv
            refine h75 [] 0 5 ?_ hbv
            have hno : own = false := by
              have := hspec (maskN b) hmlt
              rw [← hown, this]; rfl
            subst hno
            exact Ev.step (f := fun k => (taliklaw03_known.f k).bind fun t => some t) (fun k => by simp [taliklaw03_CoolRivals.j1]) known_ev'
          | some st =>
            obtain ⟨c, l⟩ := st
            rw [hbn] at hspec hbv
            obtain ⟨⟨s, hs, hls, hcs, hks⟩, hmin⟩ := hspec
            refine h75 l c 0 ?_ hbv
            have hlS : ∀ x ∈ l, 0 ≤ x ∧ x < (S.length : Int) := by rw [hls]; exact memI_sub hs
            have hll : l.length ≤ 10 := by rw [hls]; exact memI_small s
            have hli : incr S.length (-1) l = true := incr_of (by rw [hls]; exact memI_lt s) fun x hx => by have := hlS x hx; omega
            have hml : maskN l = s := by
              apply Nat.eq_of_testBit_eq
              intro j
              rw [Bool.eq_iff_iff, maskN_bit j l fun y hy => (hlS y hy).1, hls, mem_memI]
              simp only [Int.natCast_nonneg, true_and, Int.toNat_natCast]
              constructor
              · exact fun h => h.2
              · intro h
                refine ⟨?_, h⟩
                rcases Nat.lt_or_ge j 10 with h2 | h2
                · omega
                · have : s.testBit j = false := Nat.testBit_lt_two_pow (Nat.lt_of_lt_of_le hs (Nat.pow_le_pow_right (by decide) (by omega)))
                  rw [this] at h; cases h
            obtain ⟨n, hn1, hn2⟩ := hfloor s hs hks
            rw [hfl] at hn1
            cases hn1
            rw [← hls] at hn2
            have hkl : keepsV H S l a1 = (true, 0) := by unfold keepsV; rw [hf, hgo l hli]; simp only [hml, hks]; rfl
            have hj3 := Rivals_fin hv b (by omega) hbS l (by omega) c own (fun h => by
              have := hmin (maskN b) hmlt (hbk h)
              rwa [hmb] at this)
            refine Ev.step (f := fun k => (talikref03_Coolers.f k H S l).bind fun t457 => (if t457 = true then ((talikref03_Cost.f k H S l).bind fun t458 => (if c = t458 then (taliklaw03_CoolRivals.j2 k a1 b l c own (decide ((n : Int) > (l.length : Int))) H S) else (taliklaw03_CoolRivals.j2 k a1 b l c own true H S))) else (taliklaw03_CoolRivals.j2 k a1 b l c own true H S))) (fun k => ?_) ?_
            · simp only [taliklaw03_CoolRivals.j1, Bool.false_eq_true, if_false, if_true]
            · refine Ev.bind (Coolers_ev H S l (by omega) (by omega)) ?_
              simp only [hli, if_true]
              refine Ev.bind (Cost_ev hv l (by omega) hlS) ?_
              simp only [← hcs, if_true]
              refine Ev.step (f := fun k => taliklaw03_CoolRivals.j3 k b l c own false H S) (fun k => ?_) hj3
              simp only [taliklaw03_CoolRivals.j2, cool_Keeps.f, hkl, Option.bind_some, if_true, Bool.not_true]
              rw [decide_eq_false (by omega)]
              simp
end Go.Proofs.Ytmkdllaagaimlaa.C
end
section
namespace Go.Proofs.Ytmkdllaagaimlaa.C
open Go.ChangeShapes Go.WideShapes Go.Deep Go.RowKit Go.Proofs.YtmkdllaagaimlaaW.PrintWords Go.Proofs.YtmkdllaagaimlaaW.PrintLast Go.Proofs.YtmkdllaagaimlaaW.PrintMore
set_option linter.unusedVariables false
set_option linter.unusedSimpArgs false
structure Opens (P : Program) (t : TypeId) {α : Type} (d : Kd α) (Q : α → Prop) : Prop where
  size : P.cellsOf t = d.sz
  reads : ∀ {H : Type} (enc : TypeId × Value → H) (w : World) (base : Nat) (spare : Nat → Bool) (held : Bool) (fuel : Nat) (cs : List Value) (x : DataW H × List MemPlace), DataW.trod enc P w base spare held fuel t cs = some x → ∃ y, d.K w y cs ∧ Q y
theorem opens_int {P : Program} {t : TypeId} {k : IntKind} (ht : P.underlying t = some (.int k)) (hc : P.cellsOf t = 1) : Opens P t (Kd.int k) (fun n => (Lit.int k n).wf = true) := ⟨hc, fun enc w base spare held fuel cs x h => by
  obtain ⟨n, rfl, _, hw⟩ := DataW.trod_int ht h
  exact ⟨n, rfl, hw⟩⟩
theorem opens_slice {P : Program} {t e : TypeId} {α : Type} {d : Kd α} {Q : α → Prop} (ht : P.underlying t = some (.slice e)) (hc : P.cellsOf t = 1) (he : Opens P e d Q) : Opens P t (Kd.slice e d) (fun xs => (∀ x ∈ xs, Q x) ∧ xs.length ≤ 9223372036854775807) := ⟨hc, fun enc w base spare held fuel cs x h => by
  rcases open_slice ht h with ⟨rfl, _⟩ | ⟨a, len, cap, m, n, D, Pl, rfl, hb, hl, hm, hmm, _, hel⟩
  · exact ⟨[], ⟨none, 0, rfl, Nat.le_refl _, rfl, by simp, fun h => by simp at h⟩, (fun x hx => by cases hx), by simp⟩
  · have hlm : len ≤ m := by rw [hmm]; split <;> omega
    have key : ∀ j : Nat, j ≤ len → ∃ xs : List α, xs.length = j ∧ (∀ x ∈ xs, Q x) ∧ ∀ i p, xs[i]? = some p → ∃ c, c.length = d.sz ∧ d.K w p c ∧ ∀ q u, c[q]? = some u → w.cell? (a.add (i * d.sz + q)) = some u := by
      intro j
      induction j with
      | zero => intro _; exact ⟨[], rfl, (fun x hx => by cases hx), fun i p h => by simp at h⟩
      | succ j ih =>
        intro hj
        obtain ⟨xs, h1, h2, h3⟩ := ih (by omega)
        obtain ⟨cs', hcs, htr⟩ := hel j (by omega)
        obtain ⟨_, hlen, hcell⟩ := World.cells?_some hcs
        obtain ⟨y, hy, hq⟩ := he.reads _ _ _ _ _ _ _ _ htr
        refine ⟨xs ++ [y], by simp [h1], fun x hx => ?_, fun i p hp => ?_⟩
        · rcases List.mem_append.1 hx with hx | hx
          · exact h2 x hx
          · rw [List.mem_singleton.1 hx]; exact hq
        · rcases Nat.lt_or_ge i xs.length with hi | hi
          · rw [List.getElem?_append_left hi] at hp
            exact h3 i p hp
          · rw [List.getElem?_append_right hi] at hp
            have hi2 : i - xs.length = 0 := by
              rcases Nat.eq_zero_or_pos (i - xs.length) with h | h
              · exact h
              · rw [List.getElem?_eq_none (by simp; omega)] at hp; cases hp
            rw [hi2] at hp
            simp only [List.getElem?_cons_zero, Option.some.injEq] at hp
            subst hp
            have hij : i = j := by omega
            subst hij
            refine ⟨cs', d.K_len hy, hy, fun q u hu => ?_⟩
            have hql : q < cs'.length := (List.getElem?_eq_some_iff.1 hu).1
            have h := hcell q (by omega)
            rw [hu] at h
            rw [← h, he.size]
            congr 1
            simp only [Addr.add]
            by_cases e1 : i * d.sz = 0 <;> by_cases e2 : q = 0 <;> simp [e1, e2, Nat.add_assoc]
    obtain ⟨xs, h1, h2, h3⟩ := key len (Nat.le_refl _)
    have hmx : cap ≤ 9223372036854775807 := by unfold maxLen at hm; exact hm
    subst h1
    exact ⟨xs, ⟨some a, cap, rfl, hl, rfl, by omega, fun _ => ⟨a, rfl, h3⟩⟩, h2, by omega⟩⟩
theorem opens_pair {P : Program} {t : TypeId} {f0 f1 : Field} {α β : Type} {d0 : Kd α} {d1 : Kd β} {Q0 : α → Prop} {Q1 : β → Prop} (ht : P.underlying t = some (.struct #[f0, f1])) (hc : P.cellsOf t = d0.sz + d1.sz) (h0 : Opens P f0.type d0 Q0) (h1 : Opens P f1.type d1 Q1) (o0 : f0.offset = 0) (o1 : f1.offset = d0.sz) :
    Opens P t (Kd.pair d0 d1) (fun x => Q0 x.1 ∧ Q1 x.2) := ⟨hc, fun enc w base spare held fuel cs x h => by
  obtain ⟨y0, y1, n, _, hl, t0, t1⟩ := trod_struct2 ht h
  obtain ⟨a, ha, qa⟩ := h0.reads _ _ _ _ _ _ _ _ t0
  obtain ⟨b, hb, qb⟩ := h1.reads _ _ _ _ _ _ _ _ t1
  rw [o0, h0.size, List.drop_zero] at ha
  rw [o1, h1.size, List.take_of_length_le (by simp; omega)] at hb
  exact ⟨(a, b), ⟨_, _, (List.take_append_drop _ _).symm, ha, hb⟩, qa, qb⟩⟩
theorem opens_triple {P : Program} {t : TypeId} {f0 f1 f2 : Field} {α β γ : Type} {d0 : Kd α} {d1 : Kd β} {d2 : Kd γ} {Q0 : α → Prop} {Q1 : β → Prop} {Q2 : γ → Prop} (ht : P.underlying t = some (.struct #[f0, f1, f2])) (hc : P.cellsOf t = d0.sz + (d1.sz + d2.sz)) (h0 : Opens P f0.type d0 Q0) (h1 : Opens P f1.type d1 Q1) (h2 : Opens P f2.type d2 Q2) (o0 : f0.offset = 0) (o1 : f1.offset = d0.sz) (o2 : f2.offset = d0.sz + d1.sz) :
    Opens P t (Kd.pair d0 (Kd.pair d1 d2)) (fun x => Q0 x.1 ∧ Q1 x.2.1 ∧ Q2 x.2.2) := ⟨hc, fun enc w base spare held fuel cs x h => by
  obtain ⟨y0, y1, y2, n, _, hl, t0, t1, t2⟩ := trod_struct3 ht h
  obtain ⟨a, ha, qa⟩ := h0.reads _ _ _ _ _ _ _ _ t0
  obtain ⟨b, hb, qb⟩ := h1.reads _ _ _ _ _ _ _ _ t1
  obtain ⟨c, hcc, qc⟩ := h2.reads _ _ _ _ _ _ _ _ t2
  rw [o0, h0.size, List.drop_zero] at ha
  rw [o1, h1.size] at hb
  rw [o2, h2.size, List.take_of_length_le (by simp; omega)] at hcc
  refine ⟨(a, b, c), ⟨_, _, (List.take_append_drop d0.sz cs).symm, ha, _, _, (List.take_append_drop d1.sz _).symm, hb, ?_⟩, qa, qb, qc⟩
  rwa [List.drop_drop]⟩
theorem opens_iso {P : Program} {t : TypeId} {α β : Type} {d : Kd α} {Q : α → Prop} (h : Opens P t d Q) (f : β → α) (g : α → β) (hfg : ∀ x, f (g x) = x) : Opens P t (Kd.iso d f) (fun y => Q (f y)) := ⟨h.size, fun enc w base spare held fuel cs x hx => by
  obtain ⟨y, hy, hq⟩ := h.reads enc w base spare held fuel cs x hx
  exact ⟨g y, by show d.K w (f (g y)) cs; rw [hfg]; exact hy, by rw [hfg]; exact hq⟩⟩
theorem Opens.imp {P : Program} {t : TypeId} {α : Type} {d : Kd α} {Q Q' : α → Prop} (h : Opens P t d Q) (hq : ∀ x, Q x → Q' x) : Opens P t d Q' := ⟨h.size, fun enc w base spare held fuel cs x hx => by
  obtain ⟨y, hy, hq'⟩ := h.reads enc w base spare held fuel cs x hx
  exact ⟨y, hy, hq y hq'⟩⟩
theorem op3 : Opens Try.prog 3 (Kd.int .i64) (fun n => (Lit.int .i64 n).wf = true) := opens_int (by kernel_rfl) (by kernel_rfl)
theorem op28 : Opens Try.prog 28 (Kd.slice 3 (Kd.int .i64)) (fun xs => (∀ x ∈ xs, (Lit.int .i64 x).wf = true) ∧ xs.length ≤ 9223372036854775807) := opens_slice (by kernel_rfl) (by kernel_rfl) op3
theorem op58 : Opens Try.prog 58 k58 (fun _ => True) := (opens_iso (opens_pair Try.underlying58 (by kernel_rfl) op3 op3 rfl rfl) (fun x : S58 => (x.f0, x.f1)) (fun x => ⟨x.1, x.2⟩) (fun _ => rfl)).imp fun _ _ => trivial
theorem op62 : Opens Try.prog 62 (Kd.slice 58 k58) (fun xs => xs.length ≤ 9223372036854775807) := (opens_slice (by kernel_rfl) (by kernel_rfl) op58).imp fun _ h => h.2
theorem op64 : Opens Try.prog 64 k64 (fun s => s.f2.length ≤ 9223372036854775807) := (opens_iso (opens_triple Try.underlying64 (by kernel_rfl) op3 op3 op62 rfl rfl rfl) (fun x : S64 => (x.f0, x.f1, x.f2)) (fun x => ⟨x.1, x.2.1, x.2.2⟩) (fun _ => rfl)).imp fun _ h => h.2.2
theorem op60 : Opens Try.prog 60 k60 (fun _ => True) := (opens_iso (opens_pair Try.underlying60 (by kernel_rfl) op58 op3 rfl rfl) (fun x : S60 => (x.f0, x.f1)) (fun x => ⟨x.1, x.2⟩) (fun _ => rfl)).imp fun _ _ => trivial
theorem op22 : Opens Try.prog 22 (Kd.slice 60 k60) (fun xs => xs.length ≤ 9223372036854775807) := (opens_slice Try.underlying22 (by kernel_rfl) op60).imp fun _ h => h.2
theorem op23 : Opens Try.prog 23 (Kd.slice 64 k64) (fun xs => (∀ s ∈ xs, s.f2.length ≤ 9223372036854775807) ∧ xs.length ≤ 9223372036854775807) := opens_slice Try.underlying23 (by kernel_rfl) op64
theorem op25 : Opens Try.prog 25 (Kd.pair (Kd.slice 60 k60) (Kd.slice 64 k64)) (fun x => x.1.length ≤ 9223372036854775807 ∧ (∀ s ∈ x.2, s.f2.length ≤ 9223372036854775807) ∧ x.2.length ≤ 9223372036854775807) := opens_pair Try.underlying25 (by kernel_rfl) op22 op23 rfl rfl
set_option maxRecDepth 100000 in
theorem open_town {H : Type} {enc : TypeId × Value → H} {W : World} {base b0 : Nat} {spare : Nat → Bool} {held : Bool} {r : Reach} {v : Value} {d : DataW H} {p : List MemPlace} (hv : Value.okWide Try.prog W r b0 25 v) (h : DataW.Trod enc Try.prog W base spare held 25 v d p) :
    ∃ (A0 : Option Addr) (c0 : Nat) (Hs : List S60) (A1 : Option Addr) (c1 : Nat) (Ss : List S64), v = .agg #[.slice A0 Hs.length c0, .slice A1 Ss.length c1] ∧ Kd.C k60 W A0 Hs.length Hs ∧ Hs.length ≤ c0 ∧ Kd.C k64 W A1 Ss.length Ss ∧ Ss.length ≤ c1 ∧ Hs.length ≤ 9223372036854775807 ∧ Ss.length ≤ 9223372036854775807 ∧ ∀ s ∈ Ss, s.f2.length ≤ 9223372036854775807 := by
  obtain ⟨cs, rfl, _⟩ := okWide_struct Try.underlying25 hv
  obtain ⟨fuel, hf⟩ := h
  obtain ⟨⟨Hs, Ss⟩, ⟨c0', c1', e, ⟨A0, c0, rfl, l0, g0⟩, ⟨A1, c1, rfl, l1, g1⟩⟩, q0, q1, q2⟩ := op25.reads _ _ _ _ _ _ _ _ hf
  refine ⟨A0, c0, Hs, A1, c1, Ss, ?_, g0, l0, g1, l1, q0, q2, q1⟩
  have e' : cs.toList = [.slice A0 Hs.length c0, .slice A1 Ss.length c1] := e
  have : cs = #[.slice A0 Hs.length c0, .slice A1 Ss.length c1] := by
    apply Array.toList_inj.1
    rw [e']
  rw [this]
set_option maxRecDepth 100000 in
theorem open_list {H : Type} {enc : TypeId × Value → H} {W : World} {base b0 : Nat} {spare : Nat → Bool} {held : Bool} {r : Reach} {v : Value} {d : DataW H} {p : List MemPlace} (hv : Value.okWide Try.prog W r b0 28 v) (h : DataW.Trod enc Try.prog W base spare held 28 v d p) :
    ∃ (A : Option Addr) (c : Nat) (l : List Int), v = .slice A l.length c ∧ Kd.C (Kd.int .i64) W A l.length l ∧ l.length ≤ c ∧ l.length ≤ 9223372036854775807 ∧ ∀ x ∈ l, (Lit.int .i64 x).wf = true := by
  obtain ⟨a, len, cap, rfl⟩ := okWide_slice (by kernel_rfl : Try.prog.underlying 28 = some (.slice 3)) hv
  obtain ⟨fuel, hf⟩ := h
  obtain ⟨l, ⟨A, c, e, hl, g⟩, q0, q1⟩ := op28.reads _ _ _ _ _ _ _ _ hf
  have e' : [Value.slice a len cap] = [.slice A l.length c] := e
  simp only [List.cons.injEq, Value.slice.injEq, and_true] at e'
  obtain ⟨rfl, rfl, rfl⟩ := e'
  exact ⟨_, _, l, rfl, g, hl, q1, q0⟩
end Go.Proofs.Ytmkdllaagaimlaa.C
end
section
namespace Go.Proofs.Ytmkdllaagaimlaa.coolRivals
open Go.ChangeShapes Go.WideShapes Go.ChangeAt Go.RowKit Go.Proofs.Ytmkdllaagaimlaa.C Go.Proofs.YtmkdllaagaimlaaW.PrintWords
set_option linter.unusedVariables false
theorem own : ownKnob Try.prog.godebug = none := by kernel_rfl
theorem laidOut : laidOutB Try.prog = true := by kernel_rfl
set_option maxRecDepth 100000 in
theorem lifted (os : Os) (started : os.Started) (H : Type) (enc : TypeId × Value → H) :
    ReturnsInHanded {} Try.checked os 4 .any (Rows.coolRivalsSpec.pre6 enc Try.prog Try.f4 Rows.coolRivalsRow.domain false) (Rows.coolRivalsSpec.post enc Try.prog Try.f4 false true false false) := by
  refine returnsInHanded_of_change_sized (C := Try.checked) own started (by kernel_rfl) Try.func4
    (ChangeSpec.witness6 (enc := enc) (C := Try.checked) false ⟨#[], #[.agg #[.slice none 0 0, .slice none 0 0], .int .i64 0, .slice none 0 0], []⟩ 8 (by kernel_rfl) (by kernel_rfl) (by kernel_rfl) (by kernel_rfl)) ?_
  intro W base args ds gs before hval0 hW hcnd hsz0 _
  have hval : ∀ (j : Nat) t v, Try.f4.params[j]? = some t → args[j]? = some v → Value.okWide Try.prog W .any base t v := hval0
  have hW' := hW
  obtain ⟨p, q, hA0, hV, rfl, hfz, hnd⟩ := hW
  have hA : DataW.TrodAll enc Try.prog W 0 (fun _ => true) true Try.f4.params.toList args.toList ds p := hA0
  rw [Try.params4] at hA hval
  obtain ⟨v0, vs0, d0, ds0, p0, q0, hargs, rfl, rfl, h0, r0⟩ := trodAll_cons hA
  obtain ⟨v1, vs1, d1, ds1, p1, q1, rfl, rfl, rfl, h1, r1⟩ := trodAll_cons r0
  obtain ⟨v2, vs2, d2, ds2, p2, q2, rfl, rfl, rfl, h2, r2⟩ := trodAll_cons r1
  obtain ⟨rfl, rfl, rfl⟩ := trodAll_nil r2
  obtain rfl : args = #[v0, v1, v2] := by cases args; simp_all
  obtain ⟨rfl, rfl⟩ := trodVars_none hV
  have k0 := h0
  have lt0 : ∀ x ∈ p0, x.block < W.heap.size := by obtain ⟨m, hm⟩ := k0; exact DataW.trod_lt m _ _ _ hm
  obtain ⟨A0, c0, H0, B0, e0, S0, rfl, a0, b0, f0, g0, x0, y0, z0⟩ := open_town (hval 0 25 v0 rfl rfl) h0
  obtain ⟨n1, rfl, rfl, rfl, w1⟩ := open_int Try.underlying3 (hval 1 3 v1 rfl rfl) h1
  have k2 := h2
  have lt2 : ∀ x ∈ p2, x.block < W.heap.size := by obtain ⟨m, hm⟩ := k2; exact DataW.trod_lt m _ _ _ hm
  obtain ⟨A2, c2, l2, rfl, a2, b2, x2, y2⟩ := open_list (hval 2 28 v2 rfl rfl) h2
  clear hA0 hval0 hsz0
  obtain ⟨k, hk⟩ := (CoolRivals_pure H0 S0 n1 l2 x0 y0 z0 w1 x2).rounds
  refine (taliklaw03_CoolRivals.calls k A0 c0 H0 B0 e0 S0 n1 A2 c2 l2 true W a0 b0 f0 g0  a2 b2 hk).mono fun e W' ⟨he, bel⟩ => ?_
  subst he
  exact ⟨_, rfl, _, _, _, [], _, [], hW', trodAll_mk1 (shut_bool Try.underlying4 _), (trodAll_cons_mk (Below.trod laidOut (by kernel_rfl) (of_decide_eq_true (by kernel_rfl)) k0 bel lt0) (trodAll_cons_mk (shut_int Try.underlying3 w1) (trodAll_cons_mk (Below.trod laidOut (by kernel_rfl) (of_decide_eq_true (by kernel_rfl)) k2 bel lt2) trodAll_mk0))), rfl, bel.frame _, fun h => by cases h⟩
theorem over : Rows.coolRivalsRow.holds Try.pinned (OpenSpec.ofChange Rows.coolRivalsSpec) :=
  OpenClaim.holds_of_wide 4 Try.f4 rfl rfl rfl rfl rfl rfl rfl ⟨rfl, rfl, rfl, rfl, rfl⟩ rfl rfl rfl rfl rfl (by kernel_rfl) Try.func4 (by kernel_rfl)
    (of_decide_eq_true (by kernel_rfl)) (by unfold Func.isWrapper; first | (rw [if_pos (by decide +kernel)]; kernel_rfl) | (rw [if_neg (by decide +kernel)]; exact ⟨rfl, rfl⟩))
    (fun os started H enc _ => lifted os started H enc)
theorem proved : Rows.CoolRivalsSaid := over
end Go.Proofs.Ytmkdllaagaimlaa.coolRivals
namespace Go.Proofs.Ytmkdllaagaimlaa
theorem coolRivals_holds : Rows.CoolRivalsSaid := coolRivals.proved
#print axioms coolRivals_holds
end Go.Proofs.Ytmkdllaagaimlaa
end
