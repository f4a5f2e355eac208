/- For every town, every list of bought coolers and every order of repairs, the law CoolAgains returns true and its arguments read afterwards as before; no condition. -/
import Derived.Test.YtmkdllaagaimlaaRows
import Derived.Test.YtmkdllaagaimlaaAG4
import Derived.ChangeSame
import Derived.Deep.Strs
import Derived.Deep.Slices
import Derived.WalkKit
import Derived.ProofKit
import Derived.OpenShut
import Derived.ShutString
import Derived.ChangeOld
import Derived.Below
import Derived.SizedLaws
import Derived.Carry
section
namespace Go.Proofs.Ytmkdllaagaimlaa.C
open Go.RowKit Go.Proofs.YtmkdllaagaimlaaW.PrintWords Go.Proofs.YtmkdllaagaimlaaW.PrintLast Go.Proofs.YtmkdllaagaimlaaW.PrintMore
attribute [local go_sem] max2_int min2_int max_two min_two max_three min_three max_four min_four   -- for this text's walks alone
set_option linter.unusedVariables false
set_option linter.unusedSimpArgs false
def talikref03_Order.l0 : Nat → List Int → List Int → Int → Option (Bool)
  | 0, _, _, _ => none
  | k + 1, x0, x1, x5 => if x5 < (x1.length : Int) then (if 0 ≤ x5 then ((talikref03_Has.f k x0 (rd x1 x5)).bind fun t468 => (if t468 = true then (if x5 ≤ (x1.length : Int) then ((talikref03_Has.f k (x1.take (x5 : Int).toNat) (rd x1 x5)).bind fun t471 => (if t471 = true then (some false) else (talikref03_Order.l0 k x0 x1 (wrap64 (x5 + 1))))) else (none)) else (some false))) else (none)) else (some true)
def talikref03_Order.f (k : Nat) (l0 : List Int) (l1 : List Int) : Option (Bool) := talikref03_Order.l0 k l0 l1 0
set_option maxHeartbeats 8000000 in
set_option maxRecDepth 100000 in
theorem talikref03_Order.calls (k : Nat) (A0 : Option Addr) (c0 : Nat) (l0 : List Int) (A1 : Option Addr) (c1 : Nat) (l1 : List Int) (r : Bool) (w : World) (hr0 : Kd.C (Kd.int .i64) w A0 l0.length l0) (hc0 : l0.length ≤ c0) (hr1 : Kd.C (Kd.int .i64) w A1 l1.length l1) (hc1 : l1.length ≤ c1) (h : talikref03_Order.f k l0 l1 = some r) :
    Calls Try.prog 34 #[.slice A0 l0.length c0, .slice A1 l1.length c1] w fun e w' => e = .returned (.bool r) ∧ Drawn0 w w' := by
  have HR0 := Aside0.mk hr0
  have HC0 := Aside0.mk hc0
  clear hr0 hc0
  have HR1 := Aside0.mk hr1
  have HC1 := Aside0.mk hc1
  clear hr1 hc1
  have H : (talikref03_Order.l0 k l0 l1 0) = some r := h
  clear h
  have H' := Aside0.mk H
  clear H
  go_enter Try.func34, Try.ntmps34
  go_wp2
  repeat (go_quiet (fail); try go_wp2)
  go_loopg [5] k (fun kq v5 w' => ∃ (x5_1 : Int), v5 = .int .i64 x5_1 ∧ Aside0 (talikref03_Order.l0 kq l0 l1 x5_1 = some r) ∧ Aside0 (kq ≤ k) ∧ Drawn0 w w')
  case atStart => exact ⟨(0), (by first | rfl | (simp; done) | (simp [*]; done)), H', ⟨Nat.le_refl _⟩, by repeat (first | exact Drawn0.refl _ | apply Drawn0.step)⟩
  case round =>
    clear H'
    try clear c1
    try clear p2
    obtain ⟨x5_1, rfl, HA, HK1, ⟨m1, rfl⟩⟩ := hrel
    cases gk with
    | zero => exact absurd HA.out (by simp [talikref03_Order.l0])
    | succ k1 =>
      have H := HA.out
      clear HA
      simp only [talikref03_Order.l0] at H
      by_cases c3 : x5_1 < (l1.length : Int)
      · rw [if_pos c3] at H
        have c3b0 : decide (x5_1 < (l1.length : Int)) = true := decide_eq_true c3
        clear c3
        by_cases c4 : 0 ≤ x5_1
        · rw [if_pos c4] at H
          have c4b0 : decide (0 ≤ x5_1) = true := decide_eq_true c4
          clear c4
          replace H := Option.bind_eq_some_iff.mp H
          obtain ⟨t468, A50, H⟩ := H
          replace H : (if t468 = true then (if x5_1 ≤ (l1.length : Int) then ((talikref03_Has.f k1 (l1.take (x5_1 : Int).toNat) (rd l1 x5_1)).bind fun t471 => (if t471 = true then (some false) else (talikref03_Order.l0 k1 l0 l1 (wrap64 (x5_1 + 1))))) else (none)) else (some false)) = some r := H
          have A5 := Aside0.mk A50
          clear A50
          by_cases c6 : t468 = true
          · subst c6
            have H1 : (if x5_1 ≤ (l1.length : Int) then ((talikref03_Has.f k1 (l1.take (x5_1 : Int).toNat) (rd l1 x5_1)).bind fun t471 => (if t471 = true then (some false) else (talikref03_Order.l0 k1 l0 l1 (wrap64 (x5_1 + 1))))) else (none)) = some r := by rw [if_pos rfl] at H; exact H
            clear H
            have H := H1
            clear H1
            have c7b0 := eq_true (of_decide_eq_true (by first | (with_reducible assumption) | assumption) : 0 ≤ x5_1)
            by_cases c8 : x5_1 ≤ (l1.length : Int)
            · rw [if_pos c8] at H
              have c8b0 := eq_true c8
              have c8b1 : decide (x5_1 ≤ (l1.length : Int)) = true := decide_eq_true c8
              clear c8
              replace H := Option.bind_eq_some_iff.mp H
              obtain ⟨t471, A90, H⟩ := H
              replace H : (if t471 = true then (some false) else (talikref03_Order.l0 k1 l0 l1 (wrap64 (x5_1 + 1)))) = some r := H
              have A9 := Aside0.mk A90
              clear A90
              by_cases c10 : t471 = true
              · subst c10
                have H1 : (some false) = some r := by rw [if_pos rfl] at H; exact H
                clear H
                have H := H1
                clear H1
                obtain rfl := Option.some.inj H
                have p467 : 0 ≤ (x5_1 : Int) := of_decide_eq_true (by first | (with_reducible assumption) | assumption)
                have q467 : x5_1 < (l1.length : Int) := of_decide_eq_true (by first | (with_reducible assumption) | assumption)
                obtain ⟨ad467, e467, hx467_0⟩ := Kd.at_int HR1.out x5_1 p467 q467
                cases e467
                replace p467 := eq_true p467
                replace q467 := eq_true q467
                have hlen_ : (l1.take (x5_1 : Int).toNat).length = (x5_1 : Int).toNat := by
                  have q_ : x5_1 < (l1.length : Int) := of_decide_eq_true (by first | (with_reducible assumption) | assumption)
                  rw [List.length_take]; omega
                obtain ⟨i011, hi011, _, hsz11, _⟩ := info_parts info3; obtain ⟨hcut11, hA11, hC11⟩ := print_take_of (P := Try.prog) (Value.int .i64) 0 28 3 .i64 Try.underlying28 hi011 hsz11 (some ad467) c1 l1 x5_1 (of_decide_eq_true (by first | (with_reducible assumption) | assumption)) (of_decide_eq_true (by first | (with_reducible assumption) | assumption)) HC1.out; have HR469 := Aside0.mk (Kd.C_of_reads (h1 := fun _ => rfl) (hA11 _ (Kd.reads_of_C HR1.out))); have HC469 := Aside0.mk hC11; clear hA11 hC11 hi011 hsz11; have p470 : 0 ≤ (x5_1 : Int) := of_decide_eq_true (by first | (with_reducible assumption) | assumption); have q470 : x5_1 < (l1.length : Int) := of_decide_eq_true (by first | (with_reducible assumption) | assumption); obtain ⟨ad470, e470, hx470_0⟩ := Kd.at_int HR1.out x5_1 p470 q470; obtain rfl : ad467 = ad470 := (by injection e470); replace p470 := eq_true p470; replace q470 := eq_true q470
                go_wp2_with (first | (go_at_call 33; (with_reducible refine (talikref03_Has.calls k1 _ _ l0 (rd l1 x5_1) true _ ?side1 ?side2 A5.out).mono ?_); (case side1 => repeat (first | exact HR0.out | (with_reducible refine Kd.C_alloc ?_ _) | (with_reducible refine Kd.C_drewN ?_ _) | (with_reducible refine Kd.C_drew ?_))); (case side2 => exact HC0.out); rintro e w' ⟨rfl, ⟨nd, rfl⟩⟩; (try first | exact ⟨rfl, _, World.drewN_drewN _ _ _⟩ | exact ⟨rfl, _, Eq.trans (World.drewN_drewN _ _ _) (congrArg (World.drewN _) (Nat.add_assoc _ _ _))⟩)) | (go_at_call 33; rw [← hlen_]; (with_reducible refine (talikref03_Has.calls k1 _ _ (l1.take (x5_1 : Int).toNat) (rd l1 x5_1) true _ ?side1 ?side2 A9.out).mono ?_); (case side1 => repeat (first | exact HR469.out | (with_reducible refine Kd.C_alloc ?_ _) | (with_reducible refine Kd.C_drewN ?_ _) | (with_reducible refine Kd.C_drew ?_))); (case side2 => exact HC469.out); rintro e w' ⟨rfl, ⟨nd, rfl⟩⟩; (try first | exact ⟨rfl, _, World.drewN_drewN _ _ _⟩ | exact ⟨rfl, _, Eq.trans (World.drewN_drewN _ _ _) (congrArg (World.drewN _) (Nat.add_assoc _ _ _))⟩)))
                have hlen_ : (l1.take (x5_1 : Int).toNat).length = (x5_1 : Int).toNat := by
                  have q_ : x5_1 < (l1.length : Int) := of_decide_eq_true (by first | (with_reducible assumption) | assumption)
                  rw [List.length_take]; omega
                obtain ⟨i011, hi011, _, hsz11, _⟩ := info_parts info3; obtain ⟨hcut11, hA11, hC11⟩ := print_take_of (P := Try.prog) (Value.int .i64) 0 28 3 .i64 Try.underlying28 hi011 hsz11 (some ad467) c1 l1 x5_1 (of_decide_eq_true (by first | (with_reducible assumption) | assumption)) (of_decide_eq_true (by first | (with_reducible assumption) | assumption)) HC1.out; have HR469 := Aside0.mk (Kd.C_of_reads (h1 := fun _ => rfl) (hA11 _ (Kd.reads_of_C HR1.out))); have HC469 := Aside0.mk hC11; clear hA11 hC11 hi011 hsz11; have p470 : 0 ≤ (x5_1 : Int) := of_decide_eq_true (by first | (with_reducible assumption) | assumption); have q470 : x5_1 < (l1.length : Int) := of_decide_eq_true (by first | (with_reducible assumption) | assumption); obtain ⟨ad470, e470, hx470_0⟩ := Kd.at_int HR1.out x5_1 p470 q470; obtain rfl : ad467 = ad470 := (by injection e470); replace p470 := eq_true p470; replace q470 := eq_true q470
                repeat (go_quiet (first | (go_at_call 33; (with_reducible refine (talikref03_Has.calls k1 _ _ l0 (rd l1 x5_1) true _ ?side1 ?side2 A5.out).mono ?_); (case side1 => repeat (first | exact HR0.out | (with_reducible refine Kd.C_alloc ?_ _) | (with_reducible refine Kd.C_drewN ?_ _) | (with_reducible refine Kd.C_drew ?_))); (case side2 => exact HC0.out); rintro e w' ⟨rfl, ⟨nd, rfl⟩⟩; (try first | exact ⟨rfl, _, World.drewN_drewN _ _ _⟩ | exact ⟨rfl, _, Eq.trans (World.drewN_drewN _ _ _) (congrArg (World.drewN _) (Nat.add_assoc _ _ _))⟩)) | (go_at_call 33; rw [← hlen_]; (with_reducible refine (talikref03_Has.calls k1 _ _ (l1.take (x5_1 : Int).toNat) (rd l1 x5_1) true _ ?side1 ?side2 A9.out).mono ?_); (case side1 => repeat (first | exact HR469.out | (with_reducible refine Kd.C_alloc ?_ _) | (with_reducible refine Kd.C_drewN ?_ _) | (with_reducible refine Kd.C_drew ?_))); (case side2 => exact HC469.out); rintro e w' ⟨rfl, ⟨nd, rfl⟩⟩; (try first | exact ⟨rfl, _, World.drewN_drewN _ _ _⟩ | exact ⟨rfl, _, Eq.trans (World.drewN_drewN _ _ _) (congrArg (World.drewN _) (Nat.add_assoc _ _ _))⟩))); try go_wp2_with (first | (go_at_call 33; (with_reducible refine (talikref03_Has.calls k1 _ _ l0 (rd l1 x5_1) true _ ?side1 ?side2 A5.out).mono ?_); (case side1 => repeat (first | exact HR0.out | (with_reducible refine Kd.C_alloc ?_ _) | (with_reducible refine Kd.C_drewN ?_ _) | (with_reducible refine Kd.C_drew ?_))); (case side2 => exact HC0.out); rintro e w' ⟨rfl, ⟨nd, rfl⟩⟩; (try first | exact ⟨rfl, _, World.drewN_drewN _ _ _⟩ | exact ⟨rfl, _, Eq.trans (World.drewN_drewN _ _ _) (congrArg (World.drewN _) (Nat.add_assoc _ _ _))⟩)) | (go_at_call 33; rw [← hlen_]; (with_reducible refine (talikref03_Has.calls k1 _ _ (l1.take (x5_1 : Int).toNat) (rd l1 x5_1) true _ ?side1 ?side2 A9.out).mono ?_); (case side1 => repeat (first | exact HR469.out | (with_reducible refine Kd.C_alloc ?_ _) | (with_reducible refine Kd.C_drewN ?_ _) | (with_reducible refine Kd.C_drew ?_))); (case side2 => exact HC469.out); rintro e w' ⟨rfl, ⟨nd, rfl⟩⟩; (try first | exact ⟨rfl, _, World.drewN_drewN _ _ _⟩ | exact ⟨rfl, _, Eq.trans (World.drewN_drewN _ _ _) (congrArg (World.drewN _) (Nat.add_assoc _ _ _))⟩))))
                go_ret
                exact ⟨by first | rfl | (simp; done) | (simp [*]; done), by repeat (first | exact Drawn0.refl _ | apply Drawn0.step)⟩
              · replace c10 := Bool.eq_false_iff.mpr c10
                subst c10
                have H1 : (talikref03_Order.l0 k1 l0 l1 (wrap64 (x5_1 + 1))) = some r := by rw [if_neg (show ¬ (false = true) by decide)] at H; exact H
                clear H
                have H := H1
                clear H1
                have H' := Aside0.mk H
                clear H
                have p467 : 0 ≤ (x5_1 : Int) := of_decide_eq_true (by first | (with_reducible assumption) | assumption)
                have q467 : x5_1 < (l1.length : Int) := of_decide_eq_true (by first | (with_reducible assumption) | assumption)
                obtain ⟨ad467, e467, hx467_0⟩ := Kd.at_int HR1.out x5_1 p467 q467
                cases e467
                replace p467 := eq_true p467
                replace q467 := eq_true q467
                have hlen_ : (l1.take (x5_1 : Int).toNat).length = (x5_1 : Int).toNat := by
                  have q_ : x5_1 < (l1.length : Int) := of_decide_eq_true (by first | (with_reducible assumption) | assumption)
                  rw [List.length_take]; omega
                obtain ⟨i012, hi012, _, hsz12, _⟩ := info_parts info3; obtain ⟨hcut12, hA12, hC12⟩ := print_take_of (P := Try.prog) (Value.int .i64) 0 28 3 .i64 Try.underlying28 hi012 hsz12 (some ad467) c1 l1 x5_1 (of_decide_eq_true (by first | (with_reducible assumption) | assumption)) (of_decide_eq_true (by first | (with_reducible assumption) | assumption)) HC1.out; have HR469 := Aside0.mk (Kd.C_of_reads (h1 := fun _ => rfl) (hA12 _ (Kd.reads_of_C HR1.out))); have HC469 := Aside0.mk hC12; clear hA12 hC12 hi012 hsz12; have p470 : 0 ≤ (x5_1 : Int) := of_decide_eq_true (by first | (with_reducible assumption) | assumption); have q470 : x5_1 < (l1.length : Int) := of_decide_eq_true (by first | (with_reducible assumption) | assumption); obtain ⟨ad470, e470, hx470_0⟩ := Kd.at_int HR1.out x5_1 p470 q470; obtain rfl : ad467 = ad470 := (by injection e470); replace p470 := eq_true p470; replace q470 := eq_true q470
                go_wp2_with (first | (go_at_call 33; (with_reducible refine (talikref03_Has.calls k1 _ _ l0 (rd l1 x5_1) true _ ?side1 ?side2 A5.out).mono ?_); (case side1 => repeat (first | exact HR0.out | (with_reducible refine Kd.C_alloc ?_ _) | (with_reducible refine Kd.C_drewN ?_ _) | (with_reducible refine Kd.C_drew ?_))); (case side2 => exact HC0.out); rintro e w' ⟨rfl, ⟨nd, rfl⟩⟩; (try first | exact ⟨rfl, _, World.drewN_drewN _ _ _⟩ | exact ⟨rfl, _, Eq.trans (World.drewN_drewN _ _ _) (congrArg (World.drewN _) (Nat.add_assoc _ _ _))⟩)) | (go_at_call 33; rw [← hlen_]; (with_reducible refine (talikref03_Has.calls k1 _ _ (l1.take (x5_1 : Int).toNat) (rd l1 x5_1) false _ ?side1 ?side2 A9.out).mono ?_); (case side1 => repeat (first | exact HR469.out | (with_reducible refine Kd.C_alloc ?_ _) | (with_reducible refine Kd.C_drewN ?_ _) | (with_reducible refine Kd.C_drew ?_))); (case side2 => exact HC469.out); rintro e w' ⟨rfl, ⟨nd, rfl⟩⟩; (try first | exact ⟨rfl, _, World.drewN_drewN _ _ _⟩ | exact ⟨rfl, _, Eq.trans (World.drewN_drewN _ _ _) (congrArg (World.drewN _) (Nat.add_assoc _ _ _))⟩)))
                have hlen_ : (l1.take (x5_1 : Int).toNat).length = (x5_1 : Int).toNat := by
                  have q_ : x5_1 < (l1.length : Int) := of_decide_eq_true (by first | (with_reducible assumption) | assumption)
                  rw [List.length_take]; omega
                obtain ⟨i012, hi012, _, hsz12, _⟩ := info_parts info3; obtain ⟨hcut12, hA12, hC12⟩ := print_take_of (P := Try.prog) (Value.int .i64) 0 28 3 .i64 Try.underlying28 hi012 hsz12 (some ad467) c1 l1 x5_1 (of_decide_eq_true (by first | (with_reducible assumption) | assumption)) (of_decide_eq_true (by first | (with_reducible assumption) | assumption)) HC1.out; have HR469 := Aside0.mk (Kd.C_of_reads (h1 := fun _ => rfl) (hA12 _ (Kd.reads_of_C HR1.out))); have HC469 := Aside0.mk hC12; clear hA12 hC12 hi012 hsz12; have p470 : 0 ≤ (x5_1 : Int) := of_decide_eq_true (by first | (with_reducible assumption) | assumption); have q470 : x5_1 < (l1.length : Int) := of_decide_eq_true (by first | (with_reducible assumption) | assumption); obtain ⟨ad470, e470, hx470_0⟩ := Kd.at_int HR1.out x5_1 p470 q470; obtain rfl : ad467 = ad470 := (by injection e470); replace p470 := eq_true p470; replace q470 := eq_true q470
                repeat (go_quiet (first | (go_at_call 33; (with_reducible refine (talikref03_Has.calls k1 _ _ l0 (rd l1 x5_1) true _ ?side1 ?side2 A5.out).mono ?_); (case side1 => repeat (first | exact HR0.out | (with_reducible refine Kd.C_alloc ?_ _) | (with_reducible refine Kd.C_drewN ?_ _) | (with_reducible refine Kd.C_drew ?_))); (case side2 => exact HC0.out); rintro e w' ⟨rfl, ⟨nd, rfl⟩⟩; (try first | exact ⟨rfl, _, World.drewN_drewN _ _ _⟩ | exact ⟨rfl, _, Eq.trans (World.drewN_drewN _ _ _) (congrArg (World.drewN _) (Nat.add_assoc _ _ _))⟩)) | (go_at_call 33; rw [← hlen_]; (with_reducible refine (talikref03_Has.calls k1 _ _ (l1.take (x5_1 : Int).toNat) (rd l1 x5_1) false _ ?side1 ?side2 A9.out).mono ?_); (case side1 => repeat (first | exact HR469.out | (with_reducible refine Kd.C_alloc ?_ _) | (with_reducible refine Kd.C_drewN ?_ _) | (with_reducible refine Kd.C_drew ?_))); (case side2 => exact HC469.out); rintro e w' ⟨rfl, ⟨nd, rfl⟩⟩; (try first | exact ⟨rfl, _, World.drewN_drewN _ _ _⟩ | exact ⟨rfl, _, Eq.trans (World.drewN_drewN _ _ _) (congrArg (World.drewN _) (Nat.add_assoc _ _ _))⟩))); try go_wp2_with (first | (go_at_call 33; (with_reducible refine (talikref03_Has.calls k1 _ _ l0 (rd l1 x5_1) true _ ?side1 ?side2 A5.out).mono ?_); (case side1 => repeat (first | exact HR0.out | (with_reducible refine Kd.C_alloc ?_ _) | (with_reducible refine Kd.C_drewN ?_ _) | (with_reducible refine Kd.C_drew ?_))); (case side2 => exact HC0.out); rintro e w' ⟨rfl, ⟨nd, rfl⟩⟩; (try first | exact ⟨rfl, _, World.drewN_drewN _ _ _⟩ | exact ⟨rfl, _, Eq.trans (World.drewN_drewN _ _ _) (congrArg (World.drewN _) (Nat.add_assoc _ _ _))⟩)) | (go_at_call 33; rw [← hlen_]; (with_reducible refine (talikref03_Has.calls k1 _ _ (l1.take (x5_1 : Int).toNat) (rd l1 x5_1) false _ ?side1 ?side2 A9.out).mono ?_); (case side1 => repeat (first | exact HR469.out | (with_reducible refine Kd.C_alloc ?_ _) | (with_reducible refine Kd.C_drewN ?_ _) | (with_reducible refine Kd.C_drew ?_))); (case side2 => exact HC469.out); rintro e w' ⟨rfl, ⟨nd, rfl⟩⟩; (try first | exact ⟨rfl, _, World.drewN_drewN _ _ _⟩ | exact ⟨rfl, _, Eq.trans (World.drewN_drewN _ _ _) (congrArg (World.drewN _) (Nat.add_assoc _ _ _))⟩))))
                go_roundg k1
                case measure => have := HK1.out; omega
                case rel => exact ⟨(wrap64 (x5_1 + 1)), (by first | rfl | (simp; done) | (simp [*]; done)), H', ⟨by have := HK1.out; omega⟩, by repeat (first | exact Drawn0.refl _ | apply Drawn0.step)⟩
            · rw [if_neg c8] at H
              exact absurd H (by simp)
          · replace c6 := Bool.eq_false_iff.mpr c6
            subst c6
            have H1 : (some false) = some r := by rw [if_neg (show ¬ (false = true) by decide)] at H; exact H
            clear H
            have H := H1
            clear H1
            obtain rfl := Option.some.inj H
            have p467 : 0 ≤ (x5_1 : Int) := of_decide_eq_true (by first | (with_reducible assumption) | assumption)
            have q467 : x5_1 < (l1.length : Int) := of_decide_eq_true (by first | (with_reducible assumption) | assumption)
            obtain ⟨ad467, e467, hx467_0⟩ := Kd.at_int HR1.out x5_1 p467 q467
            cases e467
            replace p467 := eq_true p467
            replace q467 := eq_true q467
            go_wp2_with (first | (go_at_call 33; (with_reducible refine (talikref03_Has.calls k1 _ _ l0 (rd l1 x5_1) false _ ?side1 ?side2 A5.out).mono ?_); (case side1 => repeat (first | exact HR0.out | (with_reducible refine Kd.C_alloc ?_ _) | (with_reducible refine Kd.C_drewN ?_ _) | (with_reducible refine Kd.C_drew ?_))); (case side2 => exact HC0.out); rintro e w' ⟨rfl, ⟨nd, rfl⟩⟩; (try first | exact ⟨rfl, _, World.drewN_drewN _ _ _⟩ | exact ⟨rfl, _, Eq.trans (World.drewN_drewN _ _ _) (congrArg (World.drewN _) (Nat.add_assoc _ _ _))⟩)))
            repeat (go_quiet (first | (go_at_call 33; (with_reducible refine (talikref03_Has.calls k1 _ _ l0 (rd l1 x5_1) false _ ?side1 ?side2 A5.out).mono ?_); (case side1 => repeat (first | exact HR0.out | (with_reducible refine Kd.C_alloc ?_ _) | (with_reducible refine Kd.C_drewN ?_ _) | (with_reducible refine Kd.C_drew ?_))); (case side2 => exact HC0.out); rintro e w' ⟨rfl, ⟨nd, rfl⟩⟩; (try first | exact ⟨rfl, _, World.drewN_drewN _ _ _⟩ | exact ⟨rfl, _, Eq.trans (World.drewN_drewN _ _ _) (congrArg (World.drewN _) (Nat.add_assoc _ _ _))⟩))); try go_wp2_with (first | (go_at_call 33; (with_reducible refine (talikref03_Has.calls k1 _ _ l0 (rd l1 x5_1) false _ ?side1 ?side2 A5.out).mono ?_); (case side1 => repeat (first | exact HR0.out | (with_reducible refine Kd.C_alloc ?_ _) | (with_reducible refine Kd.C_drewN ?_ _) | (with_reducible refine Kd.C_drew ?_))); (case side2 => exact HC0.out); rintro e w' ⟨rfl, ⟨nd, rfl⟩⟩; (try first | exact ⟨rfl, _, World.drewN_drewN _ _ _⟩ | exact ⟨rfl, _, Eq.trans (World.drewN_drewN _ _ _) (congrArg (World.drewN _) (Nat.add_assoc _ _ _))⟩))))
            go_ret
            exact ⟨by first | rfl | (simp; done) | (simp [*]; done), by repeat (first | exact Drawn0.refl _ | apply Drawn0.step)⟩
        · rw [if_neg c4] at H
          exact absurd H (by simp)
      · rw [if_neg c3] at H
        have c3b0 : decide (x5_1 < (l1.length : Int)) = false := decide_eq_false c3
        clear c3
        obtain rfl := Option.some.inj H
        go_wp2
        repeat (go_quiet (fail); try go_wp2)
        go_ret
        exact ⟨by first | rfl | (simp; done) | (simp [*]; done), by repeat (first | exact Drawn0.refl _ | apply Drawn0.step)⟩
def taliklaw03_repaired.f (k : Nat) (l0_0 : List (S60)) (l0_1 : List (S64)) (l1 : List Int) (l2 : List Int) : Option (Int) := if (l2.length : Int) > 6 then (some 3) else ((taliklaw03_asked.f k l0_0 l0_1 l1).bind fun t473 => (if t473 = true then ((talikref03_Order.f k l1 l2).bind fun t474 => (if t474 = true then (some 0) else (some 2))) else (some 2)))
set_option maxHeartbeats 8000000 in
set_option maxRecDepth 100000 in
theorem taliklaw03_repaired.calls (k : Nat) (A0_0 : Option Addr) (c0_0 : Nat) (l0_0 : List (S60)) (A0_1 : Option Addr) (c0_1 : Nat) (l0_1 : List (S64)) (A1 : Option Addr) (c1 : Nat) (l1 : List Int) (A2 : Option Addr) (c2 : Nat) (l2 : List Int) (r : Int) (w : World) (hr0_0 : Kd.C k60 w A0_0 l0_0.length l0_0) (hc0_0 : l0_0.length ≤ c0_0) (hr0_1 : Kd.C k64 w A0_1 l0_1.length l0_1) (hc0_1 : l0_1.length ≤ c0_1) (hr1 : Kd.C (Kd.int .i64) w A1 l1.length l1) (hc1 : l1.length ≤ c1) (hr2 : Kd.C (Kd.int .i64) w A2 l2.length l2) (hc2 : l2.length ≤ c2) (h : taliklaw03_repaired.f k l0_0 l0_1 l1 l2 = some r) :
    Calls Try.prog 27 #[.agg #[.slice A0_0 l0_0.length c0_0, .slice A0_1 l0_1.length c0_1], .slice A1 l1.length c1, .slice A2 l2.length c2] w fun e w' => e = .returned (.int .i64 r) ∧ Below w.heap.size w w' := by
  have hu25 := Try.underlying25
  have HR0_0 := Aside0.mk hr0_0
  have HC0_0 := Aside0.mk hc0_0
  clear hr0_0 hc0_0
  have HR0_1 := Aside0.mk hr0_1
  have HC0_1 := Aside0.mk hc0_1
  clear hr0_1 hc0_1
  have HR1 := Aside0.mk hr1
  have HC1 := Aside0.mk hc1
  clear hr1 hc1
  have HR2 := Aside0.mk hr2
  have HC2 := Aside0.mk hc2
  clear hr2 hc2
  have HB := Aside0.mk (Below.refl w.heap.size w)
  have H : (if (l2.length : Int) > 6 then (some 3) else ((taliklaw03_asked.f k l0_0 l0_1 l1).bind fun t473 => (if t473 = true then ((talikref03_Order.f k l1 l2).bind fun t474 => (if t474 = true then (some 0) else (some 2))) else (some 2)))) = some r := h
  clear h
  by_cases c4 : (l2.length : Int) > 6
  · rw [if_pos c4] at H
    have c4b0 : decide (6 < (l2.length : Int)) = true := decide_eq_true c4
    have c4b1 : decide (6 < l2.length) = true := decide_eq_true (by omega)
    clear c4
    obtain rfl := Option.some.inj H
    go_enter Try.func27, Try.ntmps27
    go_wp2_with (first | ((with_reducible refine gate_dst (N := 3) rfl ?_); refine box_event ?hg (N := 3) ?hd (cs := #[.slice A0_0 l0_0.length c0_0, .slice A0_1 l0_1.length c0_1]) (t := 25) ?hr ?_; (case hd => rfl); (case hg => rfl); (case hr => first | (go_simp; done) | (go_simp; rfl)); intro gb472 hg w5 hbox hb; have n0_ := Aside0.mk (below_step (by repeat (first | (with_reducible first | exact HB.out | apply below_alloc | apply pw_below_drewN | apply below_drew1) | exact HB.out)) hb); have n1_ := Aside0.mk (hbox); have n2_ := Aside0.mk ((by rw [hg]; exact (below_size (by repeat (first | (with_reducible first | exact HB.out | apply below_alloc | apply pw_below_drewN | apply below_drew1) | exact HB.out))) : w.heap.size ≤ gb472)); have n3_ := Aside0.mk ((by rw [hg]; exact (below_size (by repeat (first | (with_reducible first | exact HB.out | apply below_alloc | apply pw_below_drewN | apply below_drew1) | exact HB.out))) : w.heap.size ≤ gb472)); clear HB; have HB := n0_; have BK472 := n1_; have GW472 := n2_; have GE472 := n3_; clear n0_ n1_ n2_ n3_; clear hb hbox hg))
    go_ret
    exact ⟨by first | rfl | (simp [errW_none, errW_some] <;> rfl) | (simp [*, errW_none, errW_some] <;> rfl), by repeat (first | (with_reducible first | exact HB.out | apply below_alloc | apply pw_below_drewN | apply below_drew1 | refine below_set ?_ GE472.out) | exact HB.out)⟩
  · rw [if_neg c4] at H
    have c4b0 : decide (6 < (l2.length : Int)) = false := decide_eq_false c4
    have c4b1 : decide (6 < l2.length) = false := decide_eq_false (by omega)
    clear c4
    replace H := Option.bind_eq_some_iff.mp H
    obtain ⟨t473, A60, H⟩ := H
    replace H : (if t473 = true then ((talikref03_Order.f k l1 l2).bind fun t474 => (if t474 = true then (some 0) else (some 2))) else (some 2)) = some r := H
    have A6 := Aside0.mk A60
    clear A60
    by_cases c7 : t473 = true
    · subst c7
      have H1 : ((talikref03_Order.f k l1 l2).bind fun t474 => (if t474 = true then (some 0) else (some 2))) = some r := by rw [if_pos rfl] at H; exact H
      clear H
      have H := H1
      clear H1
      replace H := Option.bind_eq_some_iff.mp H
      obtain ⟨t474, A80, H⟩ := H
      replace H : (if t474 = true then (some 0) else (some 2)) = some r := H
      have A8 := Aside0.mk A80
      clear A80
      by_cases c9 : t474 = true
      · subst c9
        have H1 : (some 0) = some r := by rw [if_pos rfl] at H; exact H
        clear H
        have H := H1
        clear H1
        obtain rfl := Option.some.inj H
        go_enter Try.func27, Try.ntmps27
        go_wp2_with (first | ((with_reducible refine gate_dst (N := 3) rfl ?_); refine box_event ?hg (N := 3) ?hd (cs := #[.slice A0_0 l0_0.length c0_0, .slice A0_1 l0_1.length c0_1]) (t := 25) ?hr ?_; (case hd => rfl); (case hg => rfl); (case hr => first | (go_simp; done) | (go_simp; rfl)); intro gb472 hg w10 hbox hb; have n0_ := Aside0.mk (below_step (by repeat (first | (with_reducible first | exact HB.out | apply below_alloc | apply pw_below_drewN | apply below_drew1) | exact HB.out)) hb); have n1_ := Aside0.mk (hbox); have n2_ := Aside0.mk ((by rw [hg]; exact (below_size (by repeat (first | (with_reducible first | exact HB.out | apply below_alloc | apply pw_below_drewN | apply below_drew1) | exact HB.out))) : w.heap.size ≤ gb472)); have n3_ := Aside0.mk ((by rw [hg]; exact (below_size (by repeat (first | (with_reducible first | exact HB.out | apply below_alloc | apply pw_below_drewN | apply below_drew1) | exact HB.out))) : w.heap.size ≤ gb472)); clear HB; have HB := n0_; have BK472 := n1_; have GW472 := n2_; have GE472 := n3_; clear n0_ n1_ n2_ n3_; clear hb hbox hg; have hcz11_0 : w10.cell? ⟨gb472, 0, none⟩ = some (.slice A0_0 l0_0.length c0_0) := (blk_cell BK472.out 0).trans rfl; have hcz11_1 : w10.cell? ⟨gb472, 1, none⟩ = some (.slice A0_1 l0_1.length c0_1) := (blk_cell BK472.out 1).trans rfl; have hfz11_0 := blk_frozen BK472.out 0; have hfz11_1 := blk_frozen BK472.out 1) | ((with_reducible refine gate_callee (f := 22) rfl ?_); refine goesL_ (some 12) rfl rfl Try.func22 (by kernel_rfl) rfl #[.agg #[.slice A0_0 l0_0.length c0_0, .slice A0_1 l0_1.length c0_1], .slice A1 l1.length c1] rfl (by (try simp only [List.map_toArray, List.map_cons, List.map_nil]); first | done | rfl | (simp only [List.length_drop, List.length_take]; rfl)) ?_; (with_reducible refine (taliklaw03_asked.calls k _ _ l0_0 _ _ l0_1 _ _ l1 true _ ?side1 ?side2 ?side3 ?side4 ?side5 ?side6 A6.out).mono ?_); (case side1 => repeat (first | exact (Kd.C_below HR0_0.out HB.out) | (with_reducible refine Kd.C_alloc ?_ _) | (with_reducible refine Kd.C_drewN ?_ _) | (with_reducible refine Kd.C_drew ?_))); (case side2 => exact HC0_0.out); (case side3 => repeat (first | exact (Kd.C_below HR0_1.out HB.out) | (with_reducible refine Kd.C_alloc ?_ _) | (with_reducible refine Kd.C_drewN ?_ _) | (with_reducible refine Kd.C_drew ?_))); (case side4 => exact HC0_1.out); (case side5 => repeat (first | exact (Kd.C_below HR1.out HB.out) | (with_reducible refine Kd.C_alloc ?_ _) | (with_reducible refine Kd.C_drewN ?_ _) | (with_reducible refine Kd.C_drew ?_))); (case side6 => exact HC1.out); rintro e w12 ⟨rfl, hb⟩; refine ⟨_, rfl, ?_⟩; have n0_ := Aside0.mk (blk_below (g := gb472) (o := .cells #[.slice A0_0 l0_0.length c0_0, .slice A0_1 l0_1.length c0_1] 25 (0, 0)) (by (with_reducible repeat (first | refine blk_drewN ?_ _ | refine blk_drew ?_ | refine blk_alloc ?_ _)); exact BK472.out) hb); have n1_ := Aside0.mk (below_step (by repeat (first | (with_reducible first | exact HB.out | apply below_alloc | apply pw_below_drewN | apply below_drew1 | refine below_set ?_ GE472.out) | exact HB.out)) hb); clear BK472; clear HB; have BK472 := n0_; have HB := n1_; clear n0_ n1_; (try clear hb); (try clear hb2); (try clear hk); (try clear hi)) | (go_at_call 34; (with_reducible refine (talikref03_Order.calls k _ _ l1 _ _ l2 true _ ?side1 ?side2 ?side3 ?side4 A8.out).mono ?_); (case side1 => repeat (first | exact (Kd.C_below HR1.out HB.out) | (with_reducible refine Kd.C_alloc ?_ _) | (with_reducible refine Kd.C_drewN ?_ _) | (with_reducible refine Kd.C_drew ?_))); (case side2 => exact HC1.out); (case side3 => repeat (first | exact (Kd.C_below HR2.out HB.out) | (with_reducible refine Kd.C_alloc ?_ _) | (with_reducible refine Kd.C_drewN ?_ _) | (with_reducible refine Kd.C_drew ?_))); (case side4 => exact HC2.out); rintro e w' ⟨rfl, ⟨nd, rfl⟩⟩))
        go_ret
        exact ⟨by first | rfl | (simp [errW_none, errW_some] <;> rfl) | (simp [*, errW_none, errW_some] <;> rfl), by repeat (first | (with_reducible first | exact HB.out | apply below_alloc | apply pw_below_drewN | apply below_drew1 | refine below_set ?_ GE472.out) | exact HB.out)⟩
      · replace c9 := Bool.eq_false_iff.mpr c9
        subst c9
        have H1 : (some 2) = some r := by rw [if_neg (show ¬ (false = true) by decide)] at H; exact H
        clear H
        have H := H1
        clear H1
        obtain rfl := Option.some.inj H
        go_enter Try.func27, Try.ntmps27
        go_wp2_with (first | ((with_reducible refine gate_dst (N := 3) rfl ?_); refine box_event ?hg (N := 3) ?hd (cs := #[.slice A0_0 l0_0.length c0_0, .slice A0_1 l0_1.length c0_1]) (t := 25) ?hr ?_; (case hd => rfl); (case hg => rfl); (case hr => first | (go_simp; done) | (go_simp; rfl)); intro gb472 hg w13 hbox hb; have n0_ := Aside0.mk (below_step (by repeat (first | (with_reducible first | exact HB.out | apply below_alloc | apply pw_below_drewN | apply below_drew1) | exact HB.out)) hb); have n1_ := Aside0.mk (hbox); have n2_ := Aside0.mk ((by rw [hg]; exact (below_size (by repeat (first | (with_reducible first | exact HB.out | apply below_alloc | apply pw_below_drewN | apply below_drew1) | exact HB.out))) : w.heap.size ≤ gb472)); have n3_ := Aside0.mk ((by rw [hg]; exact (below_size (by repeat (first | (with_reducible first | exact HB.out | apply below_alloc | apply pw_below_drewN | apply below_drew1) | exact HB.out))) : w.heap.size ≤ gb472)); clear HB; have HB := n0_; have BK472 := n1_; have GW472 := n2_; have GE472 := n3_; clear n0_ n1_ n2_ n3_; clear hb hbox hg; have hcz14_0 : w13.cell? ⟨gb472, 0, none⟩ = some (.slice A0_0 l0_0.length c0_0) := (blk_cell BK472.out 0).trans rfl; have hcz14_1 : w13.cell? ⟨gb472, 1, none⟩ = some (.slice A0_1 l0_1.length c0_1) := (blk_cell BK472.out 1).trans rfl; have hfz14_0 := blk_frozen BK472.out 0; have hfz14_1 := blk_frozen BK472.out 1) | ((with_reducible refine gate_callee (f := 22) rfl ?_); refine goesL_ (some 12) rfl rfl Try.func22 (by kernel_rfl) rfl #[.agg #[.slice A0_0 l0_0.length c0_0, .slice A0_1 l0_1.length c0_1], .slice A1 l1.length c1] rfl (by (try simp only [List.map_toArray, List.map_cons, List.map_nil]); first | done | rfl | (simp only [List.length_drop, List.length_take]; rfl)) ?_; (with_reducible refine (taliklaw03_asked.calls k _ _ l0_0 _ _ l0_1 _ _ l1 true _ ?side1 ?side2 ?side3 ?side4 ?side5 ?side6 A6.out).mono ?_); (case side1 => repeat (first | exact (Kd.C_below HR0_0.out HB.out) | (with_reducible refine Kd.C_alloc ?_ _) | (with_reducible refine Kd.C_drewN ?_ _) | (with_reducible refine Kd.C_drew ?_))); (case side2 => exact HC0_0.out); (case side3 => repeat (first | exact (Kd.C_below HR0_1.out HB.out) | (with_reducible refine Kd.C_alloc ?_ _) | (with_reducible refine Kd.C_drewN ?_ _) | (with_reducible refine Kd.C_drew ?_))); (case side4 => exact HC0_1.out); (case side5 => repeat (first | exact (Kd.C_below HR1.out HB.out) | (with_reducible refine Kd.C_alloc ?_ _) | (with_reducible refine Kd.C_drewN ?_ _) | (with_reducible refine Kd.C_drew ?_))); (case side6 => exact HC1.out); rintro e w15 ⟨rfl, hb⟩; refine ⟨_, rfl, ?_⟩; have n0_ := Aside0.mk (blk_below (g := gb472) (o := .cells #[.slice A0_0 l0_0.length c0_0, .slice A0_1 l0_1.length c0_1] 25 (0, 0)) (by (with_reducible repeat (first | refine blk_drewN ?_ _ | refine blk_drew ?_ | refine blk_alloc ?_ _)); exact BK472.out) hb); have n1_ := Aside0.mk (below_step (by repeat (first | (with_reducible first | exact HB.out | apply below_alloc | apply pw_below_drewN | apply below_drew1 | refine below_set ?_ GE472.out) | exact HB.out)) hb); clear BK472; clear HB; have BK472 := n0_; have HB := n1_; clear n0_ n1_; (try clear hb); (try clear hb2); (try clear hk); (try clear hi)) | (go_at_call 34; (with_reducible refine (talikref03_Order.calls k _ _ l1 _ _ l2 false _ ?side1 ?side2 ?side3 ?side4 A8.out).mono ?_); (case side1 => repeat (first | exact (Kd.C_below HR1.out HB.out) | (with_reducible refine Kd.C_alloc ?_ _) | (with_reducible refine Kd.C_drewN ?_ _) | (with_reducible refine Kd.C_drew ?_))); (case side2 => exact HC1.out); (case side3 => repeat (first | exact (Kd.C_below HR2.out HB.out) | (with_reducible refine Kd.C_alloc ?_ _) | (with_reducible refine Kd.C_drewN ?_ _) | (with_reducible refine Kd.C_drew ?_))); (case side4 => exact HC2.out); rintro e w' ⟨rfl, ⟨nd, rfl⟩⟩))
        go_ret
        exact ⟨by first | rfl | (simp [errW_none, errW_some] <;> rfl) | (simp [*, errW_none, errW_some] <;> rfl), by repeat (first | (with_reducible first | exact HB.out | apply below_alloc | apply pw_below_drewN | apply below_drew1 | refine below_set ?_ GE472.out) | exact HB.out)⟩
    · replace c7 := Bool.eq_false_iff.mpr c7
      subst c7
      have H1 : (some 2) = some r := by rw [if_neg (show ¬ (false = true) by decide)] at H; exact H
      clear H
      have H := H1
      clear H1
      obtain rfl := Option.some.inj H
      go_enter Try.func27, Try.ntmps27
      go_wp2_with (first | ((with_reducible refine gate_dst (N := 3) rfl ?_); refine box_event ?hg (N := 3) ?hd (cs := #[.slice A0_0 l0_0.length c0_0, .slice A0_1 l0_1.length c0_1]) (t := 25) ?hr ?_; (case hd => rfl); (case hg => rfl); (case hr => first | (go_simp; done) | (go_simp; rfl)); intro gb472 hg w16 hbox hb; have n0_ := Aside0.mk (below_step (by repeat (first | (with_reducible first | exact HB.out | apply below_alloc | apply pw_below_drewN | apply below_drew1) | exact HB.out)) hb); have n1_ := Aside0.mk (hbox); have n2_ := Aside0.mk ((by rw [hg]; exact (below_size (by repeat (first | (with_reducible first | exact HB.out | apply below_alloc | apply pw_below_drewN | apply below_drew1) | exact HB.out))) : w.heap.size ≤ gb472)); have n3_ := Aside0.mk ((by rw [hg]; exact (below_size (by repeat (first | (with_reducible first | exact HB.out | apply below_alloc | apply pw_below_drewN | apply below_drew1) | exact HB.out))) : w.heap.size ≤ gb472)); clear HB; have HB := n0_; have BK472 := n1_; have GW472 := n2_; have GE472 := n3_; clear n0_ n1_ n2_ n3_; clear hb hbox hg; have hcz17_0 : w16.cell? ⟨gb472, 0, none⟩ = some (.slice A0_0 l0_0.length c0_0) := (blk_cell BK472.out 0).trans rfl; have hcz17_1 : w16.cell? ⟨gb472, 1, none⟩ = some (.slice A0_1 l0_1.length c0_1) := (blk_cell BK472.out 1).trans rfl; have hfz17_0 := blk_frozen BK472.out 0; have hfz17_1 := blk_frozen BK472.out 1) | ((with_reducible refine gate_callee (f := 22) rfl ?_); refine goesL_ (some 12) rfl rfl Try.func22 (by kernel_rfl) rfl #[.agg #[.slice A0_0 l0_0.length c0_0, .slice A0_1 l0_1.length c0_1], .slice A1 l1.length c1] rfl (by (try simp only [List.map_toArray, List.map_cons, List.map_nil]); first | done | rfl | (simp only [List.length_drop, List.length_take]; rfl)) ?_; (with_reducible refine (taliklaw03_asked.calls k _ _ l0_0 _ _ l0_1 _ _ l1 false _ ?side1 ?side2 ?side3 ?side4 ?side5 ?side6 A6.out).mono ?_); (case side1 => repeat (first | exact (Kd.C_below HR0_0.out HB.out) | (with_reducible refine Kd.C_alloc ?_ _) | (with_reducible refine Kd.C_drewN ?_ _) | (with_reducible refine Kd.C_drew ?_))); (case side2 => exact HC0_0.out); (case side3 => repeat (first | exact (Kd.C_below HR0_1.out HB.out) | (with_reducible refine Kd.C_alloc ?_ _) | (with_reducible refine Kd.C_drewN ?_ _) | (with_reducible refine Kd.C_drew ?_))); (case side4 => exact HC0_1.out); (case side5 => repeat (first | exact (Kd.C_below HR1.out HB.out) | (with_reducible refine Kd.C_alloc ?_ _) | (with_reducible refine Kd.C_drewN ?_ _) | (with_reducible refine Kd.C_drew ?_))); (case side6 => exact HC1.out); rintro e w18 ⟨rfl, hb⟩; refine ⟨_, rfl, ?_⟩; have n0_ := Aside0.mk (blk_below (g := gb472) (o := .cells #[.slice A0_0 l0_0.length c0_0, .slice A0_1 l0_1.length c0_1] 25 (0, 0)) (by (with_reducible repeat (first | refine blk_drewN ?_ _ | refine blk_drew ?_ | refine blk_alloc ?_ _)); exact BK472.out) hb); have n1_ := Aside0.mk (below_step (by repeat (first | (with_reducible first | exact HB.out | apply below_alloc | apply pw_below_drewN | apply below_drew1 | refine below_set ?_ GE472.out) | exact HB.out)) hb); clear BK472; clear HB; have BK472 := n0_; have HB := n1_; clear n0_ n1_; (try clear hb); (try clear hb2); (try clear hk); (try clear hi)))
      go_ret
      exact ⟨by first | rfl | (simp [errW_none, errW_some] <;> rfl) | (simp [*, errW_none, errW_some] <;> rfl), by repeat (first | (with_reducible first | exact HB.out | apply below_alloc | apply pw_below_drewN | apply below_drew1 | refine below_set ?_ GE472.out) | exact HB.out)⟩
def taliklaw03_CoolAgains.j0 : Nat → List Int → List Int → Bool → List (S60) → List (S64) → Option (Bool)
  | 0, _, _, _, _, _ => none
  | k + 1, x1, x2, x22, x487000, x487001 => if x22 = true then ((taliklaw03_known.f k).bind fun t488 => (some t488)) else ((cool_Again.f x487000 x487001 x1 x2).bind fun bt489 => ((taliklaw03_repaired.f k x487000 x487001 x1 x2).bind fun t493 => (if t493 = 0 then (if bt489.2 = 0 then ((talikref03_Again.f k x487000 x487001 x1 x2).bind fun t494 => ((talikref03_Same.f k bt489.1 t494).bind fun t497 => (if t497 = true then ((taliklaw03_known.f k).bind fun t498 => (some t498)) else (some false)))) else (some false)) else (if bt489.2 = t493 then (if (bt489.1.length : Int) = 0 then ((taliklaw03_known.f k).bind fun t499 => (some t499)) else (some false)) else (some false)))))
def taliklaw03_CoolAgains.f (k : Nat) (l0_0 : List (S60)) (l0_1 : List (S64)) (l1 : List Int) (l2 : List Int) : Option (Bool) := (taliklaw03_short.f k l0_0 l0_1).bind fun t487 => (if t487 = true then (if (l1.length : Int) > 15 then (taliklaw03_CoolAgains.j0 k l1 l2 true l0_0 l0_1) else (taliklaw03_CoolAgains.j0 k l1 l2 (decide ((l2.length : Int) > 15)) l0_0 l0_1)) else (taliklaw03_CoolAgains.j0 k l1 l2 true l0_0 l0_1))
set_option maxHeartbeats 8000000 in
set_option maxRecDepth 100000 in
theorem taliklaw03_CoolAgains.calls (k : Nat) (A0_0 : Option Addr) (c0_0 : Nat) (l0_0 : List (S60)) (A0_1 : Option Addr) (c0_1 : Nat) (l0_1 : List (S64)) (A1 : Option Addr) (c1 : Nat) (l1 : List Int) (A2 : Option Addr) (c2 : Nat) (l2 : List Int) (r : Bool) (w : World) (hr0_0 : Kd.C k60 w A0_0 l0_0.length l0_0) (hc0_0 : l0_0.length ≤ c0_0) (hr0_1 : Kd.C k64 w A0_1 l0_1.length l0_1) (hc0_1 : l0_1.length ≤ c0_1) (hr1 : Kd.C (Kd.int .i64) w A1 l1.length l1) (hc1 : l1.length ≤ c1) (hr2 : Kd.C (Kd.int .i64) w A2 l2.length l2) (hc2 : l2.length ≤ c2) (h : taliklaw03_CoolAgains.f k l0_0 l0_1 l1 l2 = some r) :
    Calls Try.prog 5 #[.agg #[.slice A0_0 l0_0.length c0_0, .slice A0_1 l0_1.length c0_1], .slice A1 l1.length c1, .slice A2 l2.length c2] w fun e w' => e = .returned (.bool r) ∧ Below w.heap.size w w' := by
  have hu25 := Try.underlying25
  have HR0_0 := Aside0.mk hr0_0
  have HC0_0 := Aside0.mk hc0_0
  clear hr0_0 hc0_0
  have HR0_1 := Aside0.mk hr0_1
  have HC0_1 := Aside0.mk hc0_1
  clear hr0_1 hc0_1
  have HR1 := Aside0.mk hr1
  have HC1 := Aside0.mk hc1
  clear hr1 hc1
  have HR2 := Aside0.mk hr2
  have HC2 := Aside0.mk hc2
  clear hr2 hc2
  have HB := Aside0.mk (Below.refl w.heap.size w)
  have H : ((taliklaw03_short.f k l0_0 l0_1).bind fun t487 => (if t487 = true then (if (l1.length : Int) > 15 then (taliklaw03_CoolAgains.j0 k l1 l2 true l0_0 l0_1) else (taliklaw03_CoolAgains.j0 k l1 l2 (decide ((l2.length : Int) > 15)) l0_0 l0_1)) else (taliklaw03_CoolAgains.j0 k l1 l2 true l0_0 l0_1))) = some r := h
  clear h
  have HC4 := Aside0.mk H
  clear H
  go_enter Try.func5, Try.ntmps5
  go_upto_region 1 with (first | ((with_reducible refine gate_dst (N := 3) rfl ?_); (try (refine gate_guard (by rfl) ?_; dsimp only)); refine box_event ?hg (N := 3) ?hd (cs := #[.slice A0_0 l0_0.length c0_0, .slice A0_1 l0_1.length c0_1]) (t := 25) ?hr ?_; (case hd => rfl); (case hg => rfl); (case hr => first | (go_simp; done) | (go_simp; rfl)); intro gb486 hg w5 hbox hb; have n0_ := Aside0.mk (below_step (by repeat (first | (with_reducible first | exact HB.out | apply below_alloc | apply pw_below_drewN | apply below_drew1) | exact HB.out)) hb); have n1_ := Aside0.mk (hbox); have n2_ := Aside0.mk ((by rw [hg]; exact (below_size (by repeat (first | (with_reducible first | exact HB.out | apply below_alloc | apply pw_below_drewN | apply below_drew1) | exact HB.out))) : w.heap.size ≤ gb486)); have n3_ := Aside0.mk ((by rw [hg]; exact (below_size (by repeat (first | (with_reducible first | exact HB.out | apply below_alloc | apply pw_below_drewN | apply below_drew1) | exact HB.out))) : w.heap.size ≤ gb486)); clear HB; have HB := n0_; have BK486 := n1_; have GW486 := n2_; have GE486 := n3_; clear n0_ n1_ n2_ n3_; clear hb hbox hg))
  (try simp only [Act.put, List.setIfInBounds_toArray, List.set_cons_zero, List.set_cons_succ])
  go_cut [22] (fun v22 wc => ∃ (kq : Nat) (x22_3 : Bool), v22 = .bool x22_3 ∧ Aside0 (taliklaw03_CoolAgains.j0 kq l1 l2 x22_3 l0_0 l0_1 = some r) ∧ Aside0 (kq ≤ k) ∧ Aside0 (wc.heap[gb486]? = some (.cells #[(.slice A0_0 l0_0.length c0_0), (.slice A0_1 l0_1.length c0_1)] 25 (0, 0))) ∧ Aside0 (Below w.heap.size w wc))
  case first =>
    have H := HC4.out
    clear HC4
    replace H := Option.bind_eq_some_iff.mp H
    obtain ⟨t487, A60, H⟩ := H
    replace H : (if t487 = true then (if (l1.length : Int) > 15 then (taliklaw03_CoolAgains.j0 k l1 l2 true l0_0 l0_1) else (taliklaw03_CoolAgains.j0 k l1 l2 (decide ((l2.length : Int) > 15)) l0_0 l0_1)) else (taliklaw03_CoolAgains.j0 k l1 l2 true l0_0 l0_1)) = some r := H
    have A6 := Aside0.mk A60
    clear A60
    by_cases c7 : t487 = true
    · subst c7
      have H1 : (if (l1.length : Int) > 15 then (taliklaw03_CoolAgains.j0 k l1 l2 true l0_0 l0_1) else (taliklaw03_CoolAgains.j0 k l1 l2 (decide ((l2.length : Int) > 15)) l0_0 l0_1)) = some r := by rw [if_pos rfl] at H; exact H
      clear H
      have H := H1
      clear H1
      by_cases c8 : (l1.length : Int) > 15
      · rw [if_pos c8] at H
        have c8b0 : decide (15 < (l1.length : Int)) = true := decide_eq_true c8
        have c8b1 : decide (15 < l1.length) = true := decide_eq_true (by omega)
        clear c8
        (first | rw [c8b0] | (simp only [i64_w, i32_w]; rw [c8b0]) | skip)
        have H' := Aside0.mk H
        clear H
        have hcz9_0 : w5.cell? ⟨gb486, 0, none⟩ = some (.slice A0_0 l0_0.length c0_0) := (blk_cell BK486.out 0).trans rfl
        have hcz9_1 : w5.cell? ⟨gb486, 1, none⟩ = some (.slice A0_1 l0_1.length c0_1) := (blk_cell BK486.out 1).trans rfl
        have hfz9_0 := blk_frozen BK486.out 0
        have hfz9_1 := blk_frozen BK486.out 1
        go_wp2_with (first | ((with_reducible refine gate_callee (f := 12) rfl ?_); refine goesL_ (some 11) rfl rfl Try.func12 (by kernel_rfl) rfl #[.agg #[.slice A0_0 l0_0.length c0_0, .slice A0_1 l0_1.length c0_1]] rfl (by (try simp only [List.map_toArray, List.map_cons, List.map_nil]); first | done | rfl | (simp only [List.length_drop, List.length_take]; rfl)) ?_; (with_reducible refine (taliklaw03_short.calls k _ _ l0_0 _ _ l0_1 true _ ?side1 ?side2 ?side3 ?side4 A6.out).mono ?_); (case side1 => repeat (first | exact (Kd.C_below HR0_0.out HB.out) | (with_reducible refine Kd.C_alloc ?_ _) | (with_reducible refine Kd.C_drewN ?_ _) | (with_reducible refine Kd.C_drew ?_))); (case side2 => exact HC0_0.out); (case side3 => repeat (first | exact (Kd.C_below HR0_1.out HB.out) | (with_reducible refine Kd.C_alloc ?_ _) | (with_reducible refine Kd.C_drewN ?_ _) | (with_reducible refine Kd.C_drew ?_))); (case side4 => exact HC0_1.out); rintro e w10 ⟨rfl, hb⟩; refine ⟨_, rfl, ?_⟩; have n0_ := Aside0.mk (blk_below (g := gb486) (o := .cells #[.slice A0_0 l0_0.length c0_0, .slice A0_1 l0_1.length c0_1] 25 (0, 0)) (by (with_reducible repeat (first | refine blk_drewN ?_ _ | refine blk_drew ?_ | refine blk_alloc ?_ _)); exact BK486.out) hb); have n1_ := Aside0.mk (below_step (by repeat (first | (with_reducible first | exact HB.out | apply below_alloc | apply pw_below_drewN | apply below_drew1 | refine below_set ?_ GE486.out) | exact HB.out)) hb); clear BK486; clear HB; have BK486 := n0_; have HB := n1_; clear n0_ n1_; (try clear hb); (try clear hb2); (try clear hk); (try clear hi)))
        go_meet
        case rel => exact ⟨_, (true), (by first | rfl | (simp; done) | (simp [*]; done)), H', ⟨by first | omega | exact Nat.le_refl _⟩, ⟨by (with_reducible repeat (first | refine blk_drewN ?_ _ | refine blk_drew ?_ | refine blk_alloc ?_ _)); exact BK486.out⟩, ⟨by repeat (first | (with_reducible first | exact HB.out | apply below_alloc | apply pw_below_drewN | apply below_drew1 | refine below_set ?_ GE486.out) | exact HB.out)⟩⟩
      · rw [if_neg c8] at H
        have c8b0 : decide (15 < (l1.length : Int)) = false := decide_eq_false c8
        have c8b1 : decide (15 < l1.length) = false := decide_eq_false (by omega)
        clear c8
        (first | rw [c8b0] | (simp only [i64_w, i32_w]; rw [c8b0]) | skip)
        have H' := Aside0.mk H
        clear H
        have hcz11_0 : w5.cell? ⟨gb486, 0, none⟩ = some (.slice A0_0 l0_0.length c0_0) := (blk_cell BK486.out 0).trans rfl
        have hcz11_1 : w5.cell? ⟨gb486, 1, none⟩ = some (.slice A0_1 l0_1.length c0_1) := (blk_cell BK486.out 1).trans rfl
        have hfz11_0 := blk_frozen BK486.out 0
        have hfz11_1 := blk_frozen BK486.out 1
        go_wp2_with (first | ((with_reducible refine gate_callee (f := 12) rfl ?_); refine goesL_ (some 11) rfl rfl Try.func12 (by kernel_rfl) rfl #[.agg #[.slice A0_0 l0_0.length c0_0, .slice A0_1 l0_1.length c0_1]] rfl (by (try simp only [List.map_toArray, List.map_cons, List.map_nil]); first | done | rfl | (simp only [List.length_drop, List.length_take]; rfl)) ?_; (with_reducible refine (taliklaw03_short.calls k _ _ l0_0 _ _ l0_1 true _ ?side1 ?side2 ?side3 ?side4 A6.out).mono ?_); (case side1 => repeat (first | exact (Kd.C_below HR0_0.out HB.out) | (with_reducible refine Kd.C_alloc ?_ _) | (with_reducible refine Kd.C_drewN ?_ _) | (with_reducible refine Kd.C_drew ?_))); (case side2 => exact HC0_0.out); (case side3 => repeat (first | exact (Kd.C_below HR0_1.out HB.out) | (with_reducible refine Kd.C_alloc ?_ _) | (with_reducible refine Kd.C_drewN ?_ _) | (with_reducible refine Kd.C_drew ?_))); (case side4 => exact HC0_1.out); rintro e w12 ⟨rfl, hb⟩; refine ⟨_, rfl, ?_⟩; have n0_ := Aside0.mk (blk_below (g := gb486) (o := .cells #[.slice A0_0 l0_0.length c0_0, .slice A0_1 l0_1.length c0_1] 25 (0, 0)) (by (with_reducible repeat (first | refine blk_drewN ?_ _ | refine blk_drew ?_ | refine blk_alloc ?_ _)); exact BK486.out) hb); have n1_ := Aside0.mk (below_step (by repeat (first | (with_reducible first | exact HB.out | apply below_alloc | apply pw_below_drewN | apply below_drew1 | refine below_set ?_ GE486.out) | exact HB.out)) hb); clear BK486; clear HB; have BK486 := n0_; have HB := n1_; clear n0_ n1_; (try clear hb); (try clear hb2); (try clear hk); (try clear hi)))
        go_meet
        case rel => exact ⟨_, (decide ((l2.length : Int) > 15)), (by first | rfl | (simp; done) | (simp [*]; done)), H', ⟨by first | omega | exact Nat.le_refl _⟩, ⟨by (with_reducible repeat (first | refine blk_drewN ?_ _ | refine blk_drew ?_ | refine blk_alloc ?_ _)); exact BK486.out⟩, ⟨by repeat (first | (with_reducible first | exact HB.out | apply below_alloc | apply pw_below_drewN | apply below_drew1 | refine below_set ?_ GE486.out) | exact HB.out)⟩⟩
    · replace c7 := Bool.eq_false_iff.mpr c7
      subst c7
      have H1 : (taliklaw03_CoolAgains.j0 k l1 l2 true l0_0 l0_1) = some r := by rw [if_neg (show ¬ (false = true) by decide)] at H; exact H
      clear H
      have H := H1
      clear H1
      have H' := Aside0.mk H
      clear H
      have hcz13_0 : w5.cell? ⟨gb486, 0, none⟩ = some (.slice A0_0 l0_0.length c0_0) := (blk_cell BK486.out 0).trans rfl
      have hcz13_1 : w5.cell? ⟨gb486, 1, none⟩ = some (.slice A0_1 l0_1.length c0_1) := (blk_cell BK486.out 1).trans rfl
      have hfz13_0 := blk_frozen BK486.out 0
      have hfz13_1 := blk_frozen BK486.out 1
      go_wp2_with (first | ((with_reducible refine gate_callee (f := 12) rfl ?_); refine goesL_ (some 11) rfl rfl Try.func12 (by kernel_rfl) rfl #[.agg #[.slice A0_0 l0_0.length c0_0, .slice A0_1 l0_1.length c0_1]] rfl (by (try simp only [List.map_toArray, List.map_cons, List.map_nil]); first | done | rfl | (simp only [List.length_drop, List.length_take]; rfl)) ?_; (with_reducible refine (taliklaw03_short.calls k _ _ l0_0 _ _ l0_1 false _ ?side1 ?side2 ?side3 ?side4 A6.out).mono ?_); (case side1 => repeat (first | exact (Kd.C_below HR0_0.out HB.out) | (with_reducible refine Kd.C_alloc ?_ _) | (with_reducible refine Kd.C_drewN ?_ _) | (with_reducible refine Kd.C_drew ?_))); (case side2 => exact HC0_0.out); (case side3 => repeat (first | exact (Kd.C_below HR0_1.out HB.out) | (with_reducible refine Kd.C_alloc ?_ _) | (with_reducible refine Kd.C_drewN ?_ _) | (with_reducible refine Kd.C_drew ?_))); (case side4 => exact HC0_1.out); rintro e w14 ⟨rfl, hb⟩; refine ⟨_, rfl, ?_⟩; have n0_ := Aside0.mk (blk_below (g := gb486) (o := .cells #[.slice A0_0 l0_0.length c0_0, .slice A0_1 l0_1.length c0_1] 25 (0, 0)) (by (with_reducible repeat (first | refine blk_drewN ?_ _ | refine blk_drew ?_ | refine blk_alloc ?_ _)); exact BK486.out) hb); have n1_ := Aside0.mk (below_step (by repeat (first | (with_reducible first | exact HB.out | apply below_alloc | apply pw_below_drewN | apply below_drew1 | refine below_set ?_ GE486.out) | exact HB.out)) hb); clear BK486; clear HB; have BK486 := n0_; have HB := n1_; clear n0_ n1_; (try clear hb); (try clear hb2); (try clear hk); (try clear hi)))
      go_meet
      case rel => exact ⟨_, (true), (by first | rfl | (simp; done) | (simp [*]; done)), H', ⟨by first | omega | exact Nat.le_refl _⟩, ⟨by (with_reducible repeat (first | refine blk_drewN ?_ _ | refine blk_drew ?_ | refine blk_alloc ?_ _)); exact BK486.out⟩, ⟨by repeat (first | (with_reducible first | exact HB.out | apply below_alloc | apply pw_below_drewN | apply below_drew1 | refine below_set ?_ GE486.out) | exact HB.out)⟩⟩
  case rest =>
    clear HC4
    try clear c1
    try clear c2
    try clear p2
    try clear c5
    try clear c7
    try clear c8
    try clear c8b0
    try clear c8b1
    try clear c12
    try clear hcz11_0
    try clear hcz11_1
    try clear hcz13_0
    try clear hcz13_1
    try clear hcz9_0
    try clear hcz9_1
    try clear hfz11_0
    try clear hfz11_1
    try clear hfz13_0
    try clear hfz13_1
    try clear hfz9_0
    try clear hfz9_1
    obtain ⟨kq, x22_3, rfl, HA, HJ3, BK486, HB⟩ := hcut
    cases kq with
    | zero => exact absurd HA.out (by simp [taliklaw03_CoolAgains.j0])
    | succ kj3 =>
      have H := HA.out
      clear HA
      simp only [taliklaw03_CoolAgains.j0] at H
      by_cases c15 : x22_3 = true
      · subst c15
        have H1 : ((taliklaw03_known.f kj3).bind fun t488 => (some t488)) = some r := by rw [if_pos rfl] at H; exact H
        clear H
        have H := H1
        clear H1
        replace H := Option.bind_eq_some_iff.mp H
        obtain ⟨t488, A160, H⟩ := H
        replace H : (some t488) = some r := H
        have A16 := Aside0.mk A160
        clear A160
        obtain rfl := Option.some.inj H
        go_wp2_with (first | ((with_reducible refine gate_callee (f := 14) rfl ?_); refine goesL_ (some 23) rfl rfl Try.func14 (by kernel_rfl) rfl #[] rfl (by (try simp only [List.map_toArray, List.map_cons, List.map_nil]); first | done | rfl | (simp only [List.length_drop, List.length_take]; rfl)) ?_; (with_reducible refine (taliklaw03_known.calls kj3  t488 _ A16.out).mono ?_); rintro e w17 ⟨rfl, hb⟩; refine ⟨_, rfl, ?_⟩; have n0_ := Aside0.mk (blk_below (g := gb486) (o := .cells #[.slice A0_0 l0_0.length c0_0, .slice A0_1 l0_1.length c0_1] 25 (0, 0)) (by (with_reducible repeat (first | refine blk_drewN ?_ _ | refine blk_drew ?_ | refine blk_alloc ?_ _)); exact BK486.out) hb); have n1_ := Aside0.mk (below_step (by repeat (first | (with_reducible first | exact HB.out | apply below_alloc | apply pw_below_drewN | apply below_drew1 | refine below_set ?_ GE486.out) | exact HB.out)) hb); clear BK486; clear HB; have BK486 := n0_; have HB := n1_; clear n0_ n1_; (try clear hb); (try clear hb2); (try clear hk); (try clear hi)))
        go_ret
        exact ⟨by first | rfl | (simp [errW_none, errW_some] <;> rfl) | (simp [*, errW_none, errW_some] <;> rfl), by repeat (first | (with_reducible first | exact HB.out | apply below_alloc | apply pw_below_drewN | apply below_drew1 | refine below_set ?_ GE486.out) | exact HB.out)⟩
      · replace c15 := Bool.eq_false_iff.mpr c15
        subst c15
        have H1 : ((cool_Again.f l0_0 l0_1 l1 l2).bind fun bt489 => ((taliklaw03_repaired.f kj3 l0_0 l0_1 l1 l2).bind fun t493 => (if t493 = 0 then (if bt489.2 = 0 then ((talikref03_Again.f kj3 l0_0 l0_1 l1 l2).bind fun t494 => ((talikref03_Same.f kj3 bt489.1 t494).bind fun t497 => (if t497 = true then ((taliklaw03_known.f kj3).bind fun t498 => (some t498)) else (some false)))) else (some false)) else (if bt489.2 = t493 then (if (bt489.1.length : Int) = 0 then ((taliklaw03_known.f kj3).bind fun t499 => (some t499)) else (some false)) else (some false))))) = some r := by rw [if_neg (show ¬ (false = true) by decide)] at H; exact H
        clear H
        have H := H1
        clear H1
        replace H := Option.bind_eq_some_iff.mp H
        obtain ⟨⟨t489, t492⟩, A180, H⟩ := H
        replace H : ((taliklaw03_repaired.f kj3 l0_0 l0_1 l1 l2).bind fun t493 => (if t493 = 0 then (if t492 = 0 then ((talikref03_Again.f kj3 l0_0 l0_1 l1 l2).bind fun t494 => ((talikref03_Same.f kj3 t489 t494).bind fun t497 => (if t497 = true then ((taliklaw03_known.f kj3).bind fun t498 => (some t498)) else (some false)))) else (some false)) else (if t492 = t493 then (if (t489.length : Int) = 0 then ((taliklaw03_known.f kj3).bind fun t499 => (some t499)) else (some false)) else (some false)))) = some r := H
        have A18 := Aside0.mk A180
        clear A180
        replace H := Option.bind_eq_some_iff.mp H
        obtain ⟨t493, A190, H⟩ := H
        replace H : (if t493 = 0 then (if t492 = 0 then ((talikref03_Again.f kj3 l0_0 l0_1 l1 l2).bind fun t494 => ((talikref03_Same.f kj3 t489 t494).bind fun t497 => (if t497 = true then ((taliklaw03_known.f kj3).bind fun t498 => (some t498)) else (some false)))) else (some false)) else (if t492 = t493 then (if (t489.length : Int) = 0 then ((taliklaw03_known.f kj3).bind fun t499 => (some t499)) else (some false)) else (some false))) = some r := H
        have A19 := Aside0.mk A190
        clear A190
        by_cases c20 : t493 = 0
        · rw [if_pos c20] at H
          have c20b0 : (t493 == 0) = true := beq_iff_eq.mpr c20
          have c20b1 : (t493 != 0) = false := bne_eq_false_iff_eq.mpr c20
          clear c20
          by_cases c21 : t492 = 0
          · rw [if_pos c21] at H
            have c21b0 : (t492 == 0) = true := beq_iff_eq.mpr c21
            have c21b1 : (t492 != 0) = false := bne_eq_false_iff_eq.mpr c21
            clear c21
            replace H := Option.bind_eq_some_iff.mp H
            obtain ⟨t494, A220, H⟩ := H
            replace H : ((talikref03_Same.f kj3 t489 t494).bind fun t497 => (if t497 = true then ((taliklaw03_known.f kj3).bind fun t498 => (some t498)) else (some false))) = some r := H
            have A22 := Aside0.mk A220
            clear A220
            replace H := Option.bind_eq_some_iff.mp H
            obtain ⟨t497, A230, H⟩ := H
            replace H : (if t497 = true then ((taliklaw03_known.f kj3).bind fun t498 => (some t498)) else (some false)) = some r := H
            have A23 := Aside0.mk A230
            clear A230
            by_cases c24 : t497 = true
            · subst c24
              have H1 : ((taliklaw03_known.f kj3).bind fun t498 => (some t498)) = some r := by rw [if_pos rfl] at H; exact H
              clear H
              have H := H1
              clear H1
              replace H := Option.bind_eq_some_iff.mp H
              obtain ⟨t498, A250, H⟩ := H
              replace H : (some t498) = some r := H
              have A25 := Aside0.mk A250
              clear A250
              obtain rfl := Option.some.inj H
              have hcz26_0 : wc.cell? ⟨gb486, 0, none⟩ = some (.slice A0_0 l0_0.length c0_0) := (blk_cell BK486.out 0).trans rfl
              have hcz26_1 : wc.cell? ⟨gb486, 1, none⟩ = some (.slice A0_1 l0_1.length c0_1) := (blk_cell BK486.out 1).trans rfl
              have hfz26_0 := blk_frozen BK486.out 0
              have hfz26_1 := blk_frozen BK486.out 1
              go_wp2_with (first | ((with_reducible refine gate_callee (f := 26) rfl ?_); refine goesL_ (some 28) rfl rfl Try.func26 (by kernel_rfl) rfl #[.agg #[.slice A0_0 l0_0.length c0_0, .slice A0_1 l0_1.length c0_1], .slice A1 l1.length c1, .slice A2 l2.length c2] rfl (by (try simp only [List.map_toArray, List.map_cons, List.map_nil]); first | done | rfl | (simp only [List.length_drop, List.length_take]; rfl)) ?_; (with_reducible refine (cool_Again.calls _ _ l0_0 _ _ l0_1 _ _ l1 _ _ l2 t489 t492 _ ?side1 ?side2 ?side3 ?side4 ?side5 ?side6 ?side7 ?side8 A18.out).mono ?_); (case side1 => repeat (first | exact (Kd.C_below HR0_0.out HB.out) | (with_reducible refine Kd.C_alloc ?_ _) | (with_reducible refine Kd.C_drewN ?_ _) | (with_reducible refine Kd.C_drew ?_))); (case side2 => exact HC0_0.out); (case side3 => repeat (first | exact (Kd.C_below HR0_1.out HB.out) | (with_reducible refine Kd.C_alloc ?_ _) | (with_reducible refine Kd.C_drewN ?_ _) | (with_reducible refine Kd.C_drew ?_))); (case side4 => exact HC0_1.out); (case side5 => repeat (first | exact (Kd.C_below HR1.out HB.out) | (with_reducible refine Kd.C_alloc ?_ _) | (with_reducible refine Kd.C_drewN ?_ _) | (with_reducible refine Kd.C_drew ?_))); (case side6 => exact HC1.out); (case side7 => repeat (first | exact (Kd.C_below HR2.out HB.out) | (with_reducible refine Kd.C_alloc ?_ _) | (with_reducible refine Kd.C_drewN ?_ _) | (with_reducible refine Kd.C_drew ?_))); (case side8 => exact HC2.out); rintro e w27 ⟨v490, rfl, ho0, hb⟩; refine ⟨_, rfl, ?_⟩; have n0_ := Aside0.mk (Kd.R_lower ho0 (below_size (by repeat (first | (with_reducible first | exact HB.out | apply below_alloc | apply pw_below_drewN | apply below_drew1 | refine below_set ?_ GE486.out) | exact HB.out)))); have n1_ := Aside0.mk (blk_below (g := gb486) (o := .cells #[.slice A0_0 l0_0.length c0_0, .slice A0_1 l0_1.length c0_1] 25 (0, 0)) (by (with_reducible repeat (first | refine blk_drewN ?_ _ | refine blk_drew ?_ | refine blk_alloc ?_ _)); exact BK486.out) hb); have n2_ := Aside0.mk (below_step (by repeat (first | (with_reducible first | exact HB.out | apply below_alloc | apply pw_below_drewN | apply below_drew1 | refine below_set ?_ GE486.out) | exact HB.out)) hb); clear BK486; clear HB; have HO491 := n0_; have BK486 := n1_; have HB := n2_; clear n0_ n1_ n2_; (try clear hb); (try clear hb2); (try clear hk); (try clear hi); (try clear ho0); have hcz28_0 : w27.cell? ⟨gb486, 0, none⟩ = some (.slice A0_0 l0_0.length c0_0) := (blk_cell BK486.out 0).trans rfl; have hcz28_1 : w27.cell? ⟨gb486, 1, none⟩ = some (.slice A0_1 l0_1.length c0_1) := (blk_cell BK486.out 1).trans rfl; have hfz28_0 := blk_frozen BK486.out 0; have hfz28_1 := blk_frozen BK486.out 1) | ((with_reducible refine gate_callee (f := 27) rfl ?_); refine goesL_ (some 34) rfl rfl Try.func27 (by kernel_rfl) rfl #[.agg #[.slice A0_0 l0_0.length c0_0, .slice A0_1 l0_1.length c0_1], .slice A1 l1.length c1, .slice A2 l2.length c2] rfl (by (try simp only [List.map_toArray, List.map_cons, List.map_nil]); first | done | rfl | (simp only [List.length_drop, List.length_take]; rfl)) ?_; (with_reducible refine (taliklaw03_repaired.calls kj3 _ _ l0_0 _ _ l0_1 _ _ l1 _ _ l2 t493 _ ?side1 ?side2 ?side3 ?side4 ?side5 ?side6 ?side7 ?side8 A19.out).mono ?_); (case side1 => repeat (first | exact (Kd.C_below HR0_0.out HB.out) | (with_reducible refine Kd.C_alloc ?_ _) | (with_reducible refine Kd.C_drewN ?_ _) | (with_reducible refine Kd.C_drew ?_))); (case side2 => exact HC0_0.out); (case side3 => repeat (first | exact (Kd.C_below HR0_1.out HB.out) | (with_reducible refine Kd.C_alloc ?_ _) | (with_reducible refine Kd.C_drewN ?_ _) | (with_reducible refine Kd.C_drew ?_))); (case side4 => exact HC0_1.out); (case side5 => repeat (first | exact (Kd.C_below HR1.out HB.out) | (with_reducible refine Kd.C_alloc ?_ _) | (with_reducible refine Kd.C_drewN ?_ _) | (with_reducible refine Kd.C_drew ?_))); (case side6 => exact HC1.out); (case side7 => repeat (first | exact (Kd.C_below HR2.out HB.out) | (with_reducible refine Kd.C_alloc ?_ _) | (with_reducible refine Kd.C_drewN ?_ _) | (with_reducible refine Kd.C_drew ?_))); (case side8 => exact HC2.out); rintro e w29 ⟨rfl, hb⟩; refine ⟨_, rfl, ?_⟩; have n0_ := Aside0.mk (Kd.R_below (by (with_reducible repeat (first | apply Kd.R_alloc | apply Kd.R_drewN | apply Kd.R_drew)); exact HO491.out) hb); have n1_ := Aside0.mk (blk_below (g := gb486) (o := .cells #[.slice A0_0 l0_0.length c0_0, .slice A0_1 l0_1.length c0_1] 25 (0, 0)) (by (with_reducible repeat (first | refine blk_drewN ?_ _ | refine blk_drew ?_ | refine blk_alloc ?_ _)); exact BK486.out) hb); have n2_ := Aside0.mk (below_step (by repeat (first | (with_reducible first | exact HB.out | apply below_alloc | apply pw_below_drewN | apply below_drew1 | refine below_set ?_ GE486.out) | exact HB.out)) hb); clear HO491; clear BK486; clear HB; have HO491 := n0_; have BK486 := n1_; have HB := n2_; clear n0_ n1_ n2_; (try clear hb); (try clear hb2); (try clear hk); (try clear hi); have hcz30_0 : w29.cell? ⟨gb486, 0, none⟩ = some (.slice A0_0 l0_0.length c0_0) := (blk_cell BK486.out 0).trans rfl; have hcz30_1 : w29.cell? ⟨gb486, 1, none⟩ = some (.slice A0_1 l0_1.length c0_1) := (blk_cell BK486.out 1).trans rfl; have hfz30_0 := blk_frozen BK486.out 0; have hfz30_1 := blk_frozen BK486.out 1) | (go_at_call 28; (with_reducible refine (talikref03_Again.calls kj3 _ _ l0_0 _ _ l0_1 _ _ l1 _ _ l2 t494 _ ?side1 ?side2 ?side3 ?side4 ?side5 ?side6 ?side7 ?side8 A22.out).mono ?_); (case side1 => repeat (first | exact (Kd.C_below HR0_0.out HB.out) | (with_reducible refine Kd.C_alloc ?_ _) | (with_reducible refine Kd.C_drewN ?_ _) | (with_reducible refine Kd.C_drew ?_))); (case side2 => exact HC0_0.out); (case side3 => repeat (first | exact (Kd.C_below HR0_1.out HB.out) | (with_reducible refine Kd.C_alloc ?_ _) | (with_reducible refine Kd.C_drewN ?_ _) | (with_reducible refine Kd.C_drew ?_))); (case side4 => exact HC0_1.out); (case side5 => repeat (first | exact (Kd.C_below HR1.out HB.out) | (with_reducible refine Kd.C_alloc ?_ _) | (with_reducible refine Kd.C_drewN ?_ _) | (with_reducible refine Kd.C_drew ?_))); (case side6 => exact HC1.out); (case side7 => repeat (first | exact (Kd.C_below HR2.out HB.out) | (with_reducible refine Kd.C_alloc ?_ _) | (with_reducible refine Kd.C_drewN ?_ _) | (with_reducible refine Kd.C_drew ?_))); (case side8 => exact HC2.out); rintro e w31 ⟨v495, rfl, ho0, hb⟩; have n0_ := Aside0.mk (Kd.R_elder' (by (with_reducible repeat (first | apply Kd.R_alloc | apply Kd.R_drewN | apply Kd.R_drew)); exact HO491.out) (Kd.R_base ho0) hb); have n1_ := Aside0.mk (Kd.R_lower (Kd.R_new' ho0 (Kd.R_lt (by (with_reducible repeat (first | apply Kd.R_alloc | apply Kd.R_drewN | apply Kd.R_drew)); exact HO491.out))) (below_size (by repeat (first | (with_reducible first | exact HB.out | apply below_alloc | apply pw_below_drewN | apply below_drew1 | refine below_set ?_ GE486.out) | exact HB.out)))); have n2_ := Aside0.mk (blk_below (g := gb486) (o := .cells #[.slice A0_0 l0_0.length c0_0, .slice A0_1 l0_1.length c0_1] 25 (0, 0)) (by (with_reducible repeat (first | refine blk_drewN ?_ _ | refine blk_drew ?_ | refine blk_alloc ?_ _)); exact BK486.out) hb); have n3_ := Aside0.mk (below_step (by repeat (first | (with_reducible first | exact HB.out | apply below_alloc | apply pw_below_drewN | apply below_drew1 | refine below_set ?_ GE486.out) | exact HB.out)) hb); clear HO491; clear BK486; clear HB; have HO491 := n0_; have HO496 := n1_; have BK486 := n2_; have HB := n3_; clear n0_ n1_ n2_ n3_; (try clear hb); (try clear hb2); (try clear hk); (try clear hi); (try clear ho0); obtain ⟨Ao32, co32, eo32⟩ := Kd.R_slice HO491.out; subst eo32; obtain ⟨Ao33, co33, eo33⟩ := Kd.R_slice HO496.out; subst eo33) | (go_at_call 20; (with_reducible refine (talikref03_Same.calls kj3 _ _ t489 _ _ t494 true _ ?side1 ?side2 ?side3 ?side4 A23.out).mono ?_); (case side1 => repeat (first | exact (Kd.R_reads' HO491.out).2.2 | (with_reducible refine Kd.C_alloc ?_ _) | (with_reducible refine Kd.C_drewN ?_ _) | (with_reducible refine Kd.C_drew ?_))); (case side2 => exact (Kd.R_reads' HO491.out).2.1); (case side3 => repeat (first | exact (Kd.R_reads' HO496.out).2.2 | (with_reducible refine Kd.C_alloc ?_ _) | (with_reducible refine Kd.C_drewN ?_ _) | (with_reducible refine Kd.C_drew ?_))); (case side4 => exact (Kd.R_reads' HO496.out).2.1); rintro e w' ⟨rfl, ⟨nd, rfl⟩⟩) | (go_at_call 14; (with_reducible refine (taliklaw03_known.calls kj3  t498 _ A25.out).mono ?_); rintro e w34 ⟨rfl, hb⟩; have n0_ := Aside0.mk (Kd.R_below (by (with_reducible repeat (first | apply Kd.R_alloc | apply Kd.R_drewN | apply Kd.R_drew)); exact HO491.out) hb); have n1_ := Aside0.mk (Kd.R_below (by (with_reducible repeat (first | apply Kd.R_alloc | apply Kd.R_drewN | apply Kd.R_drew)); exact HO496.out) hb); have n2_ := Aside0.mk (blk_below (g := gb486) (o := .cells #[.slice A0_0 l0_0.length c0_0, .slice A0_1 l0_1.length c0_1] 25 (0, 0)) (by (with_reducible repeat (first | refine blk_drewN ?_ _ | refine blk_drew ?_ | refine blk_alloc ?_ _)); exact BK486.out) hb); have n3_ := Aside0.mk (below_step (by repeat (first | (with_reducible first | exact HB.out | apply below_alloc | apply pw_below_drewN | apply below_drew1 | refine below_set ?_ GE486.out) | exact HB.out)) hb); clear HO491; clear HO496; clear BK486; clear HB; have HO491 := n0_; have HO496 := n1_; have BK486 := n2_; have HB := n3_; clear n0_ n1_ n2_ n3_; (try clear hb); (try clear hb2); (try clear hk); (try clear hi)))
              go_ret
              exact ⟨by first | rfl | (simp [errW_none, errW_some] <;> rfl) | (simp [*, errW_none, errW_some] <;> rfl), by repeat (first | (with_reducible first | exact HB.out | apply below_alloc | apply pw_below_drewN | apply below_drew1 | refine below_set ?_ GE486.out) | exact HB.out)⟩
            · replace c24 := Bool.eq_false_iff.mpr c24
              subst c24
              have H1 : (some false) = some r := by rw [if_neg (show ¬ (false = true) by decide)] at H; exact H
              clear H
              have H := H1
              clear H1
              obtain rfl := Option.some.inj H
              have hcz35_0 : wc.cell? ⟨gb486, 0, none⟩ = some (.slice A0_0 l0_0.length c0_0) := (blk_cell BK486.out 0).trans rfl
              have hcz35_1 : wc.cell? ⟨gb486, 1, none⟩ = some (.slice A0_1 l0_1.length c0_1) := (blk_cell BK486.out 1).trans rfl
              have hfz35_0 := blk_frozen BK486.out 0
              have hfz35_1 := blk_frozen BK486.out 1
              go_wp2_with (first | ((with_reducible refine gate_callee (f := 26) rfl ?_); refine goesL_ (some 28) rfl rfl Try.func26 (by kernel_rfl) rfl #[.agg #[.slice A0_0 l0_0.length c0_0, .slice A0_1 l0_1.length c0_1], .slice A1 l1.length c1, .slice A2 l2.length c2] rfl (by (try simp only [List.map_toArray, List.map_cons, List.map_nil]); first | done | rfl | (simp only [List.length_drop, List.length_take]; rfl)) ?_; (with_reducible refine (cool_Again.calls _ _ l0_0 _ _ l0_1 _ _ l1 _ _ l2 t489 t492 _ ?side1 ?side2 ?side3 ?side4 ?side5 ?side6 ?side7 ?side8 A18.out).mono ?_); (case side1 => repeat (first | exact (Kd.C_below HR0_0.out HB.out) | (with_reducible refine Kd.C_alloc ?_ _) | (with_reducible refine Kd.C_drewN ?_ _) | (with_reducible refine Kd.C_drew ?_))); (case side2 => exact HC0_0.out); (case side3 => repeat (first | exact (Kd.C_below HR0_1.out HB.out) | (with_reducible refine Kd.C_alloc ?_ _) | (with_reducible refine Kd.C_drewN ?_ _) | (with_reducible refine Kd.C_drew ?_))); (case side4 => exact HC0_1.out); (case side5 => repeat (first | exact (Kd.C_below HR1.out HB.out) | (with_reducible refine Kd.C_alloc ?_ _) | (with_reducible refine Kd.C_drewN ?_ _) | (with_reducible refine Kd.C_drew ?_))); (case side6 => exact HC1.out); (case side7 => repeat (first | exact (Kd.C_below HR2.out HB.out) | (with_reducible refine Kd.C_alloc ?_ _) | (with_reducible refine Kd.C_drewN ?_ _) | (with_reducible refine Kd.C_drew ?_))); (case side8 => exact HC2.out); rintro e w36 ⟨v490, rfl, ho0, hb⟩; refine ⟨_, rfl, ?_⟩; have n0_ := Aside0.mk (Kd.R_lower ho0 (below_size (by repeat (first | (with_reducible first | exact HB.out | apply below_alloc | apply pw_below_drewN | apply below_drew1 | refine below_set ?_ GE486.out) | exact HB.out)))); have n1_ := Aside0.mk (blk_below (g := gb486) (o := .cells #[.slice A0_0 l0_0.length c0_0, .slice A0_1 l0_1.length c0_1] 25 (0, 0)) (by (with_reducible repeat (first | refine blk_drewN ?_ _ | refine blk_drew ?_ | refine blk_alloc ?_ _)); exact BK486.out) hb); have n2_ := Aside0.mk (below_step (by repeat (first | (with_reducible first | exact HB.out | apply below_alloc | apply pw_below_drewN | apply below_drew1 | refine below_set ?_ GE486.out) | exact HB.out)) hb); clear BK486; clear HB; have HO491 := n0_; have BK486 := n1_; have HB := n2_; clear n0_ n1_ n2_; (try clear hb); (try clear hb2); (try clear hk); (try clear hi); (try clear ho0); have hcz37_0 : w36.cell? ⟨gb486, 0, none⟩ = some (.slice A0_0 l0_0.length c0_0) := (blk_cell BK486.out 0).trans rfl; have hcz37_1 : w36.cell? ⟨gb486, 1, none⟩ = some (.slice A0_1 l0_1.length c0_1) := (blk_cell BK486.out 1).trans rfl; have hfz37_0 := blk_frozen BK486.out 0; have hfz37_1 := blk_frozen BK486.out 1) | ((with_reducible refine gate_callee (f := 27) rfl ?_); refine goesL_ (some 34) rfl rfl Try.func27 (by kernel_rfl) rfl #[.agg #[.slice A0_0 l0_0.length c0_0, .slice A0_1 l0_1.length c0_1], .slice A1 l1.length c1, .slice A2 l2.length c2] rfl (by (try simp only [List.map_toArray, List.map_cons, List.map_nil]); first | done | rfl | (simp only [List.length_drop, List.length_take]; rfl)) ?_; (with_reducible refine (taliklaw03_repaired.calls kj3 _ _ l0_0 _ _ l0_1 _ _ l1 _ _ l2 t493 _ ?side1 ?side2 ?side3 ?side4 ?side5 ?side6 ?side7 ?side8 A19.out).mono ?_); (case side1 => repeat (first | exact (Kd.C_below HR0_0.out HB.out) | (with_reducible refine Kd.C_alloc ?_ _) | (with_reducible refine Kd.C_drewN ?_ _) | (with_reducible refine Kd.C_drew ?_))); (case side2 => exact HC0_0.out); (case side3 => repeat (first | exact (Kd.C_below HR0_1.out HB.out) | (with_reducible refine Kd.C_alloc ?_ _) | (with_reducible refine Kd.C_drewN ?_ _) | (with_reducible refine Kd.C_drew ?_))); (case side4 => exact HC0_1.out); (case side5 => repeat (first | exact (Kd.C_below HR1.out HB.out) | (with_reducible refine Kd.C_alloc ?_ _) | (with_reducible refine Kd.C_drewN ?_ _) | (with_reducible refine Kd.C_drew ?_))); (case side6 => exact HC1.out); (case side7 => repeat (first | exact (Kd.C_below HR2.out HB.out) | (with_reducible refine Kd.C_alloc ?_ _) | (with_reducible refine Kd.C_drewN ?_ _) | (with_reducible refine Kd.C_drew ?_))); (case side8 => exact HC2.out); rintro e w38 ⟨rfl, hb⟩; refine ⟨_, rfl, ?_⟩; have n0_ := Aside0.mk (Kd.R_below (by (with_reducible repeat (first | apply Kd.R_alloc | apply Kd.R_drewN | apply Kd.R_drew)); exact HO491.out) hb); have n1_ := Aside0.mk (blk_below (g := gb486) (o := .cells #[.slice A0_0 l0_0.length c0_0, .slice A0_1 l0_1.length c0_1] 25 (0, 0)) (by (with_reducible repeat (first | refine blk_drewN ?_ _ | refine blk_drew ?_ | refine blk_alloc ?_ _)); exact BK486.out) hb); have n2_ := Aside0.mk (below_step (by repeat (first | (with_reducible first | exact HB.out | apply below_alloc | apply pw_below_drewN | apply below_drew1 | refine below_set ?_ GE486.out) | exact HB.out)) hb); clear HO491; clear BK486; clear HB; have HO491 := n0_; have BK486 := n1_; have HB := n2_; clear n0_ n1_ n2_; (try clear hb); (try clear hb2); (try clear hk); (try clear hi); have hcz39_0 : w38.cell? ⟨gb486, 0, none⟩ = some (.slice A0_0 l0_0.length c0_0) := (blk_cell BK486.out 0).trans rfl; have hcz39_1 : w38.cell? ⟨gb486, 1, none⟩ = some (.slice A0_1 l0_1.length c0_1) := (blk_cell BK486.out 1).trans rfl; have hfz39_0 := blk_frozen BK486.out 0; have hfz39_1 := blk_frozen BK486.out 1) | (go_at_call 28; (with_reducible refine (talikref03_Again.calls kj3 _ _ l0_0 _ _ l0_1 _ _ l1 _ _ l2 t494 _ ?side1 ?side2 ?side3 ?side4 ?side5 ?side6 ?side7 ?side8 A22.out).mono ?_); (case side1 => repeat (first | exact (Kd.C_below HR0_0.out HB.out) | (with_reducible refine Kd.C_alloc ?_ _) | (with_reducible refine Kd.C_drewN ?_ _) | (with_reducible refine Kd.C_drew ?_))); (case side2 => exact HC0_0.out); (case side3 => repeat (first | exact (Kd.C_below HR0_1.out HB.out) | (with_reducible refine Kd.C_alloc ?_ _) | (with_reducible refine Kd.C_drewN ?_ _) | (with_reducible refine Kd.C_drew ?_))); (case side4 => exact HC0_1.out); (case side5 => repeat (first | exact (Kd.C_below HR1.out HB.out) | (with_reducible refine Kd.C_alloc ?_ _) | (with_reducible refine Kd.C_drewN ?_ _) | (with_reducible refine Kd.C_drew ?_))); (case side6 => exact HC1.out); (case side7 => repeat (first | exact (Kd.C_below HR2.out HB.out) | (with_reducible refine Kd.C_alloc ?_ _) | (with_reducible refine Kd.C_drewN ?_ _) | (with_reducible refine Kd.C_drew ?_))); (case side8 => exact HC2.out); rintro e w40 ⟨v495, rfl, ho0, hb⟩; have n0_ := Aside0.mk (Kd.R_elder' (by (with_reducible repeat (first | apply Kd.R_alloc | apply Kd.R_drewN | apply Kd.R_drew)); exact HO491.out) (Kd.R_base ho0) hb); have n1_ := Aside0.mk (Kd.R_lower (Kd.R_new' ho0 (Kd.R_lt (by (with_reducible repeat (first | apply Kd.R_alloc | apply Kd.R_drewN | apply Kd.R_drew)); exact HO491.out))) (below_size (by repeat (first | (with_reducible first | exact HB.out | apply below_alloc | apply pw_below_drewN | apply below_drew1 | refine below_set ?_ GE486.out) | exact HB.out)))); have n2_ := Aside0.mk (blk_below (g := gb486) (o := .cells #[.slice A0_0 l0_0.length c0_0, .slice A0_1 l0_1.length c0_1] 25 (0, 0)) (by (with_reducible repeat (first | refine blk_drewN ?_ _ | refine blk_drew ?_ | refine blk_alloc ?_ _)); exact BK486.out) hb); have n3_ := Aside0.mk (below_step (by repeat (first | (with_reducible first | exact HB.out | apply below_alloc | apply pw_below_drewN | apply below_drew1 | refine below_set ?_ GE486.out) | exact HB.out)) hb); clear HO491; clear BK486; clear HB; have HO491 := n0_; have HO496 := n1_; have BK486 := n2_; have HB := n3_; clear n0_ n1_ n2_ n3_; (try clear hb); (try clear hb2); (try clear hk); (try clear hi); (try clear ho0); obtain ⟨Ao41, co41, eo41⟩ := Kd.R_slice HO491.out; subst eo41; obtain ⟨Ao42, co42, eo42⟩ := Kd.R_slice HO496.out; subst eo42) | (go_at_call 20; (with_reducible refine (talikref03_Same.calls kj3 _ _ t489 _ _ t494 false _ ?side1 ?side2 ?side3 ?side4 A23.out).mono ?_); (case side1 => repeat (first | exact (Kd.R_reads' HO491.out).2.2 | (with_reducible refine Kd.C_alloc ?_ _) | (with_reducible refine Kd.C_drewN ?_ _) | (with_reducible refine Kd.C_drew ?_))); (case side2 => exact (Kd.R_reads' HO491.out).2.1); (case side3 => repeat (first | exact (Kd.R_reads' HO496.out).2.2 | (with_reducible refine Kd.C_alloc ?_ _) | (with_reducible refine Kd.C_drewN ?_ _) | (with_reducible refine Kd.C_drew ?_))); (case side4 => exact (Kd.R_reads' HO496.out).2.1); rintro e w' ⟨rfl, ⟨nd, rfl⟩⟩))
              go_ret
              exact ⟨by first | rfl | (simp [errW_none, errW_some] <;> rfl) | (simp [*, errW_none, errW_some] <;> rfl), by repeat (first | (with_reducible first | exact HB.out | apply below_alloc | apply pw_below_drewN | apply below_drew1 | refine below_set ?_ GE486.out) | exact HB.out)⟩
          · rw [if_neg c21] at H
            have c21b0 : (t492 == 0) = false := beq_eq_false_iff_ne.mpr c21
            have c21b1 : (t492 != 0) = true := bne_iff_ne.mpr c21
            obtain rfl := Option.some.inj H
            have hcz43_0 : wc.cell? ⟨gb486, 0, none⟩ = some (.slice A0_0 l0_0.length c0_0) := (blk_cell BK486.out 0).trans rfl
            have hcz43_1 : wc.cell? ⟨gb486, 1, none⟩ = some (.slice A0_1 l0_1.length c0_1) := (blk_cell BK486.out 1).trans rfl
            have hfz43_0 := blk_frozen BK486.out 0
            have hfz43_1 := blk_frozen BK486.out 1
            go_wp2_with (first | ((with_reducible refine gate_callee (f := 26) rfl ?_); refine goesL_ (some 28) rfl rfl Try.func26 (by kernel_rfl) rfl #[.agg #[.slice A0_0 l0_0.length c0_0, .slice A0_1 l0_1.length c0_1], .slice A1 l1.length c1, .slice A2 l2.length c2] rfl (by (try simp only [List.map_toArray, List.map_cons, List.map_nil]); first | done | rfl | (simp only [List.length_drop, List.length_take]; rfl)) ?_; (with_reducible refine (cool_Again.calls _ _ l0_0 _ _ l0_1 _ _ l1 _ _ l2 t489 t492 _ ?side1 ?side2 ?side3 ?side4 ?side5 ?side6 ?side7 ?side8 A18.out).mono ?_); (case side1 => repeat (first | exact (Kd.C_below HR0_0.out HB.out) | (with_reducible refine Kd.C_alloc ?_ _) | (with_reducible refine Kd.C_drewN ?_ _) | (with_reducible refine Kd.C_drew ?_))); (case side2 => exact HC0_0.out); (case side3 => repeat (first | exact (Kd.C_below HR0_1.out HB.out) | (with_reducible refine Kd.C_alloc ?_ _) | (with_reducible refine Kd.C_drewN ?_ _) | (with_reducible refine Kd.C_drew ?_))); (case side4 => exact HC0_1.out); (case side5 => repeat (first | exact (Kd.C_below HR1.out HB.out) | (with_reducible refine Kd.C_alloc ?_ _) | (with_reducible refine Kd.C_drewN ?_ _) | (with_reducible refine Kd.C_drew ?_))); (case side6 => exact HC1.out); (case side7 => repeat (first | exact (Kd.C_below HR2.out HB.out) | (with_reducible refine Kd.C_alloc ?_ _) | (with_reducible refine Kd.C_drewN ?_ _) | (with_reducible refine Kd.C_drew ?_))); (case side8 => exact HC2.out); rintro e w44 ⟨v490, rfl, ho0, hb⟩; refine ⟨_, rfl, ?_⟩; have n0_ := Aside0.mk (Kd.R_lower ho0 (below_size (by repeat (first | (with_reducible first | exact HB.out | apply below_alloc | apply pw_below_drewN | apply below_drew1 | refine below_set ?_ GE486.out) | exact HB.out)))); have n1_ := Aside0.mk (blk_below (g := gb486) (o := .cells #[.slice A0_0 l0_0.length c0_0, .slice A0_1 l0_1.length c0_1] 25 (0, 0)) (by (with_reducible repeat (first | refine blk_drewN ?_ _ | refine blk_drew ?_ | refine blk_alloc ?_ _)); exact BK486.out) hb); have n2_ := Aside0.mk (below_step (by repeat (first | (with_reducible first | exact HB.out | apply below_alloc | apply pw_below_drewN | apply below_drew1 | refine below_set ?_ GE486.out) | exact HB.out)) hb); clear BK486; clear HB; have HO491 := n0_; have BK486 := n1_; have HB := n2_; clear n0_ n1_ n2_; (try clear hb); (try clear hb2); (try clear hk); (try clear hi); (try clear ho0); have hcz45_0 : w44.cell? ⟨gb486, 0, none⟩ = some (.slice A0_0 l0_0.length c0_0) := (blk_cell BK486.out 0).trans rfl; have hcz45_1 : w44.cell? ⟨gb486, 1, none⟩ = some (.slice A0_1 l0_1.length c0_1) := (blk_cell BK486.out 1).trans rfl; have hfz45_0 := blk_frozen BK486.out 0; have hfz45_1 := blk_frozen BK486.out 1) | ((with_reducible refine gate_callee (f := 27) rfl ?_); refine goesL_ (some 34) rfl rfl Try.func27 (by kernel_rfl) rfl #[.agg #[.slice A0_0 l0_0.length c0_0, .slice A0_1 l0_1.length c0_1], .slice A1 l1.length c1, .slice A2 l2.length c2] rfl (by (try simp only [List.map_toArray, List.map_cons, List.map_nil]); first | done | rfl | (simp only [List.length_drop, List.length_take]; rfl)) ?_; (with_reducible refine (taliklaw03_repaired.calls kj3 _ _ l0_0 _ _ l0_1 _ _ l1 _ _ l2 t493 _ ?side1 ?side2 ?side3 ?side4 ?side5 ?side6 ?side7 ?side8 A19.out).mono ?_); (case side1 => repeat (first | exact (Kd.C_below HR0_0.out HB.out) | (with_reducible refine Kd.C_alloc ?_ _) | (with_reducible refine Kd.C_drewN ?_ _) | (with_reducible refine Kd.C_drew ?_))); (case side2 => exact HC0_0.out); (case side3 => repeat (first | exact (Kd.C_below HR0_1.out HB.out) | (with_reducible refine Kd.C_alloc ?_ _) | (with_reducible refine Kd.C_drewN ?_ _) | (with_reducible refine Kd.C_drew ?_))); (case side4 => exact HC0_1.out); (case side5 => repeat (first | exact (Kd.C_below HR1.out HB.out) | (with_reducible refine Kd.C_alloc ?_ _) | (with_reducible refine Kd.C_drewN ?_ _) | (with_reducible refine Kd.C_drew ?_))); (case side6 => exact HC1.out); (case side7 => repeat (first | exact (Kd.C_below HR2.out HB.out) | (with_reducible refine Kd.C_alloc ?_ _) | (with_reducible refine Kd.C_drewN ?_ _) | (with_reducible refine Kd.C_drew ?_))); (case side8 => exact HC2.out); rintro e w46 ⟨rfl, hb⟩; refine ⟨_, rfl, ?_⟩; have n0_ := Aside0.mk (Kd.R_below (by (with_reducible repeat (first | apply Kd.R_alloc | apply Kd.R_drewN | apply Kd.R_drew)); exact HO491.out) hb); have n1_ := Aside0.mk (blk_below (g := gb486) (o := .cells #[.slice A0_0 l0_0.length c0_0, .slice A0_1 l0_1.length c0_1] 25 (0, 0)) (by (with_reducible repeat (first | refine blk_drewN ?_ _ | refine blk_drew ?_ | refine blk_alloc ?_ _)); exact BK486.out) hb); have n2_ := Aside0.mk (below_step (by repeat (first | (with_reducible first | exact HB.out | apply below_alloc | apply pw_below_drewN | apply below_drew1 | refine below_set ?_ GE486.out) | exact HB.out)) hb); clear HO491; clear BK486; clear HB; have HO491 := n0_; have BK486 := n1_; have HB := n2_; clear n0_ n1_ n2_; (try clear hb); (try clear hb2); (try clear hk); (try clear hi)))
            go_ret
            exact ⟨by first | rfl | (simp [errW_none, errW_some] <;> rfl) | (simp [*, errW_none, errW_some] <;> rfl), by repeat (first | (with_reducible first | exact HB.out | apply below_alloc | apply pw_below_drewN | apply below_drew1 | refine below_set ?_ GE486.out) | exact HB.out)⟩
        · rw [if_neg c20] at H
          have c20b0 : (t493 == 0) = false := beq_eq_false_iff_ne.mpr c20
          have c20b1 : (t493 != 0) = true := bne_iff_ne.mpr c20
          by_cases c47 : t492 = t493
          · rw [if_pos c47] at H
            have c47b0 : (t492 == t493) = true := beq_iff_eq.mpr c47
            have c47b1 : (t492 != t493) = false := bne_eq_false_iff_eq.mpr c47
            clear c47
            by_cases c48 : (t489.length : Int) = 0
            · rw [if_pos c48] at H
              have c48b0 : ((t489.length : Int) == 0) = true := beq_iff_eq.mpr c48
              have c48b1 : ((t489.length : Int) != 0) = false := bne_eq_false_iff_eq.mpr c48
              clear c48
              replace H := Option.bind_eq_some_iff.mp H
              obtain ⟨t499, A490, H⟩ := H
              replace H : (some t499) = some r := H
              have A49 := Aside0.mk A490
              clear A490
              obtain rfl := Option.some.inj H
              have hcz50_0 : wc.cell? ⟨gb486, 0, none⟩ = some (.slice A0_0 l0_0.length c0_0) := (blk_cell BK486.out 0).trans rfl
              have hcz50_1 : wc.cell? ⟨gb486, 1, none⟩ = some (.slice A0_1 l0_1.length c0_1) := (blk_cell BK486.out 1).trans rfl
              have hfz50_0 := blk_frozen BK486.out 0
              have hfz50_1 := blk_frozen BK486.out 1
              go_wp2_with (first | ((with_reducible refine gate_callee (f := 26) rfl ?_); refine goesL_ (some 28) rfl rfl Try.func26 (by kernel_rfl) rfl #[.agg #[.slice A0_0 l0_0.length c0_0, .slice A0_1 l0_1.length c0_1], .slice A1 l1.length c1, .slice A2 l2.length c2] rfl (by (try simp only [List.map_toArray, List.map_cons, List.map_nil]); first | done | rfl | (simp only [List.length_drop, List.length_take]; rfl)) ?_; (with_reducible refine (cool_Again.calls _ _ l0_0 _ _ l0_1 _ _ l1 _ _ l2 t489 t492 _ ?side1 ?side2 ?side3 ?side4 ?side5 ?side6 ?side7 ?side8 A18.out).mono ?_); (case side1 => repeat (first | exact (Kd.C_below HR0_0.out HB.out) | (with_reducible refine Kd.C_alloc ?_ _) | (with_reducible refine Kd.C_drewN ?_ _) | (with_reducible refine Kd.C_drew ?_))); (case side2 => exact HC0_0.out); (case side3 => repeat (first | exact (Kd.C_below HR0_1.out HB.out) | (with_reducible refine Kd.C_alloc ?_ _) | (with_reducible refine Kd.C_drewN ?_ _) | (with_reducible refine Kd.C_drew ?_))); (case side4 => exact HC0_1.out); (case side5 => repeat (first | exact (Kd.C_below HR1.out HB.out) | (with_reducible refine Kd.C_alloc ?_ _) | (with_reducible refine Kd.C_drewN ?_ _) | (with_reducible refine Kd.C_drew ?_))); (case side6 => exact HC1.out); (case side7 => repeat (first | exact (Kd.C_below HR2.out HB.out) | (with_reducible refine Kd.C_alloc ?_ _) | (with_reducible refine Kd.C_drewN ?_ _) | (with_reducible refine Kd.C_drew ?_))); (case side8 => exact HC2.out); rintro e w51 ⟨v490, rfl, ho0, hb⟩; refine ⟨_, rfl, ?_⟩; have n0_ := Aside0.mk (Kd.R_lower ho0 (below_size (by repeat (first | (with_reducible first | exact HB.out | apply below_alloc | apply pw_below_drewN | apply below_drew1 | refine below_set ?_ GE486.out) | exact HB.out)))); have n1_ := Aside0.mk (blk_below (g := gb486) (o := .cells #[.slice A0_0 l0_0.length c0_0, .slice A0_1 l0_1.length c0_1] 25 (0, 0)) (by (with_reducible repeat (first | refine blk_drewN ?_ _ | refine blk_drew ?_ | refine blk_alloc ?_ _)); exact BK486.out) hb); have n2_ := Aside0.mk (below_step (by repeat (first | (with_reducible first | exact HB.out | apply below_alloc | apply pw_below_drewN | apply below_drew1 | refine below_set ?_ GE486.out) | exact HB.out)) hb); clear BK486; clear HB; have HO491 := n0_; have BK486 := n1_; have HB := n2_; clear n0_ n1_ n2_; (try clear hb); (try clear hb2); (try clear hk); (try clear hi); (try clear ho0); have hcz52_0 : w51.cell? ⟨gb486, 0, none⟩ = some (.slice A0_0 l0_0.length c0_0) := (blk_cell BK486.out 0).trans rfl; have hcz52_1 : w51.cell? ⟨gb486, 1, none⟩ = some (.slice A0_1 l0_1.length c0_1) := (blk_cell BK486.out 1).trans rfl; have hfz52_0 := blk_frozen BK486.out 0; have hfz52_1 := blk_frozen BK486.out 1) | ((with_reducible refine gate_callee (f := 27) rfl ?_); refine goesL_ (some 34) rfl rfl Try.func27 (by kernel_rfl) rfl #[.agg #[.slice A0_0 l0_0.length c0_0, .slice A0_1 l0_1.length c0_1], .slice A1 l1.length c1, .slice A2 l2.length c2] rfl (by (try simp only [List.map_toArray, List.map_cons, List.map_nil]); first | done | rfl | (simp only [List.length_drop, List.length_take]; rfl)) ?_; (with_reducible refine (taliklaw03_repaired.calls kj3 _ _ l0_0 _ _ l0_1 _ _ l1 _ _ l2 t493 _ ?side1 ?side2 ?side3 ?side4 ?side5 ?side6 ?side7 ?side8 A19.out).mono ?_); (case side1 => repeat (first | exact (Kd.C_below HR0_0.out HB.out) | (with_reducible refine Kd.C_alloc ?_ _) | (with_reducible refine Kd.C_drewN ?_ _) | (with_reducible refine Kd.C_drew ?_))); (case side2 => exact HC0_0.out); (case side3 => repeat (first | exact (Kd.C_below HR0_1.out HB.out) | (with_reducible refine Kd.C_alloc ?_ _) | (with_reducible refine Kd.C_drewN ?_ _) | (with_reducible refine Kd.C_drew ?_))); (case side4 => exact HC0_1.out); (case side5 => repeat (first | exact (Kd.C_below HR1.out HB.out) | (with_reducible refine Kd.C_alloc ?_ _) | (with_reducible refine Kd.C_drewN ?_ _) | (with_reducible refine Kd.C_drew ?_))); (case side6 => exact HC1.out); (case side7 => repeat (first | exact (Kd.C_below HR2.out HB.out) | (with_reducible refine Kd.C_alloc ?_ _) | (with_reducible refine Kd.C_drewN ?_ _) | (with_reducible refine Kd.C_drew ?_))); (case side8 => exact HC2.out); rintro e w53 ⟨rfl, hb⟩; refine ⟨_, rfl, ?_⟩; have n0_ := Aside0.mk (Kd.R_below (by (with_reducible repeat (first | apply Kd.R_alloc | apply Kd.R_drewN | apply Kd.R_drew)); exact HO491.out) hb); have n1_ := Aside0.mk (blk_below (g := gb486) (o := .cells #[.slice A0_0 l0_0.length c0_0, .slice A0_1 l0_1.length c0_1] 25 (0, 0)) (by (with_reducible repeat (first | refine blk_drewN ?_ _ | refine blk_drew ?_ | refine blk_alloc ?_ _)); exact BK486.out) hb); have n2_ := Aside0.mk (below_step (by repeat (first | (with_reducible first | exact HB.out | apply below_alloc | apply pw_below_drewN | apply below_drew1 | refine below_set ?_ GE486.out) | exact HB.out)) hb); clear HO491; clear BK486; clear HB; have HO491 := n0_; have BK486 := n1_; have HB := n2_; clear n0_ n1_ n2_; (try clear hb); (try clear hb2); (try clear hk); (try clear hi); obtain ⟨Ao54, co54, eo54⟩ := Kd.R_slice HO491.out; subst eo54) | (go_at_call 14; (with_reducible refine (taliklaw03_known.calls kj3  t499 _ A49.out).mono ?_); rintro e w55 ⟨rfl, hb⟩; have n0_ := Aside0.mk (Kd.R_below (by (with_reducible repeat (first | apply Kd.R_alloc | apply Kd.R_drewN | apply Kd.R_drew)); exact HO491.out) hb); have n1_ := Aside0.mk (blk_below (g := gb486) (o := .cells #[.slice A0_0 l0_0.length c0_0, .slice A0_1 l0_1.length c0_1] 25 (0, 0)) (by (with_reducible repeat (first | refine blk_drewN ?_ _ | refine blk_drew ?_ | refine blk_alloc ?_ _)); exact BK486.out) hb); have n2_ := Aside0.mk (below_step (by repeat (first | (with_reducible first | exact HB.out | apply below_alloc | apply pw_below_drewN | apply below_drew1 | refine below_set ?_ GE486.out) | exact HB.out)) hb); clear HO491; clear BK486; clear HB; have HO491 := n0_; have BK486 := n1_; have HB := n2_; clear n0_ n1_ n2_; (try clear hb); (try clear hb2); (try clear hk); (try clear hi)))
              go_ret
              exact ⟨by first | rfl | (simp [errW_none, errW_some] <;> rfl) | (simp [*, errW_none, errW_some] <;> rfl), by repeat (first | (with_reducible first | exact HB.out | apply below_alloc | apply pw_below_drewN | apply below_drew1 | refine below_set ?_ GE486.out) | exact HB.out)⟩
            · rw [if_neg c48] at H
              have c48b0 : ((t489.length : Int) == 0) = false := beq_eq_false_iff_ne.mpr c48
              have c48b1 : ((t489.length : Int) != 0) = true := bne_iff_ne.mpr c48
              have c48b2 : ¬ (t489 = []) := fun h_ => c48 (by rw [h_]; rfl)
              obtain rfl := Option.some.inj H
              have hcz56_0 : wc.cell? ⟨gb486, 0, none⟩ = some (.slice A0_0 l0_0.length c0_0) := (blk_cell BK486.out 0).trans rfl
              have hcz56_1 : wc.cell? ⟨gb486, 1, none⟩ = some (.slice A0_1 l0_1.length c0_1) := (blk_cell BK486.out 1).trans rfl
              have hfz56_0 := blk_frozen BK486.out 0
              have hfz56_1 := blk_frozen BK486.out 1
              go_wp2_with (first | ((with_reducible refine gate_callee (f := 26) rfl ?_); refine goesL_ (some 28) rfl rfl Try.func26 (by kernel_rfl) rfl #[.agg #[.slice A0_0 l0_0.length c0_0, .slice A0_1 l0_1.length c0_1], .slice A1 l1.length c1, .slice A2 l2.length c2] rfl (by (try simp only [List.map_toArray, List.map_cons, List.map_nil]); first | done | rfl | (simp only [List.length_drop, List.length_take]; rfl)) ?_; (with_reducible refine (cool_Again.calls _ _ l0_0 _ _ l0_1 _ _ l1 _ _ l2 t489 t492 _ ?side1 ?side2 ?side3 ?side4 ?side5 ?side6 ?side7 ?side8 A18.out).mono ?_); (case side1 => repeat (first | exact (Kd.C_below HR0_0.out HB.out) | (with_reducible refine Kd.C_alloc ?_ _) | (with_reducible refine Kd.C_drewN ?_ _) | (with_reducible refine Kd.C_drew ?_))); (case side2 => exact HC0_0.out); (case side3 => repeat (first | exact (Kd.C_below HR0_1.out HB.out) | (with_reducible refine Kd.C_alloc ?_ _) | (with_reducible refine Kd.C_drewN ?_ _) | (with_reducible refine Kd.C_drew ?_))); (case side4 => exact HC0_1.out); (case side5 => repeat (first | exact (Kd.C_below HR1.out HB.out) | (with_reducible refine Kd.C_alloc ?_ _) | (with_reducible refine Kd.C_drewN ?_ _) | (with_reducible refine Kd.C_drew ?_))); (case side6 => exact HC1.out); (case side7 => repeat (first | exact (Kd.C_below HR2.out HB.out) | (with_reducible refine Kd.C_alloc ?_ _) | (with_reducible refine Kd.C_drewN ?_ _) | (with_reducible refine Kd.C_drew ?_))); (case side8 => exact HC2.out); rintro e w57 ⟨v490, rfl, ho0, hb⟩; refine ⟨_, rfl, ?_⟩; have n0_ := Aside0.mk (Kd.R_lower ho0 (below_size (by repeat (first | (with_reducible first | exact HB.out | apply below_alloc | apply pw_below_drewN | apply below_drew1 | refine below_set ?_ GE486.out) | exact HB.out)))); have n1_ := Aside0.mk (blk_below (g := gb486) (o := .cells #[.slice A0_0 l0_0.length c0_0, .slice A0_1 l0_1.length c0_1] 25 (0, 0)) (by (with_reducible repeat (first | refine blk_drewN ?_ _ | refine blk_drew ?_ | refine blk_alloc ?_ _)); exact BK486.out) hb); have n2_ := Aside0.mk (below_step (by repeat (first | (with_reducible first | exact HB.out | apply below_alloc | apply pw_below_drewN | apply below_drew1 | refine below_set ?_ GE486.out) | exact HB.out)) hb); clear BK486; clear HB; have HO491 := n0_; have BK486 := n1_; have HB := n2_; clear n0_ n1_ n2_; (try clear hb); (try clear hb2); (try clear hk); (try clear hi); (try clear ho0); have hcz58_0 : w57.cell? ⟨gb486, 0, none⟩ = some (.slice A0_0 l0_0.length c0_0) := (blk_cell BK486.out 0).trans rfl; have hcz58_1 : w57.cell? ⟨gb486, 1, none⟩ = some (.slice A0_1 l0_1.length c0_1) := (blk_cell BK486.out 1).trans rfl; have hfz58_0 := blk_frozen BK486.out 0; have hfz58_1 := blk_frozen BK486.out 1) | ((with_reducible refine gate_callee (f := 27) rfl ?_); refine goesL_ (some 34) rfl rfl Try.func27 (by kernel_rfl) rfl #[.agg #[.slice A0_0 l0_0.length c0_0, .slice A0_1 l0_1.length c0_1], .slice A1 l1.length c1, .slice A2 l2.length c2] rfl (by (try simp only [List.map_toArray, List.map_cons, List.map_nil]); first | done | rfl | (simp only [List.length_drop, List.length_take]; rfl)) ?_; (with_reducible refine (taliklaw03_repaired.calls kj3 _ _ l0_0 _ _ l0_1 _ _ l1 _ _ l2 t493 _ ?side1 ?side2 ?side3 ?side4 ?side5 ?side6 ?side7 ?side8 A19.out).mono ?_); (case side1 => repeat (first | exact (Kd.C_below HR0_0.out HB.out) | (with_reducible refine Kd.C_alloc ?_ _) | (with_reducible refine Kd.C_drewN ?_ _) | (with_reducible refine Kd.C_drew ?_))); (case side2 => exact HC0_0.out); (case side3 => repeat (first | exact (Kd.C_below HR0_1.out HB.out) | (with_reducible refine Kd.C_alloc ?_ _) | (with_reducible refine Kd.C_drewN ?_ _) | (with_reducible refine Kd.C_drew ?_))); (case side4 => exact HC0_1.out); (case side5 => repeat (first | exact (Kd.C_below HR1.out HB.out) | (with_reducible refine Kd.C_alloc ?_ _) | (with_reducible refine Kd.C_drewN ?_ _) | (with_reducible refine Kd.C_drew ?_))); (case side6 => exact HC1.out); (case side7 => repeat (first | exact (Kd.C_below HR2.out HB.out) | (with_reducible refine Kd.C_alloc ?_ _) | (with_reducible refine Kd.C_drewN ?_ _) | (with_reducible refine Kd.C_drew ?_))); (case side8 => exact HC2.out); rintro e w59 ⟨rfl, hb⟩; refine ⟨_, rfl, ?_⟩; have n0_ := Aside0.mk (Kd.R_below (by (with_reducible repeat (first | apply Kd.R_alloc | apply Kd.R_drewN | apply Kd.R_drew)); exact HO491.out) hb); have n1_ := Aside0.mk (blk_below (g := gb486) (o := .cells #[.slice A0_0 l0_0.length c0_0, .slice A0_1 l0_1.length c0_1] 25 (0, 0)) (by (with_reducible repeat (first | refine blk_drewN ?_ _ | refine blk_drew ?_ | refine blk_alloc ?_ _)); exact BK486.out) hb); have n2_ := Aside0.mk (below_step (by repeat (first | (with_reducible first | exact HB.out | apply below_alloc | apply pw_below_drewN | apply below_drew1 | refine below_set ?_ GE486.out) | exact HB.out)) hb); clear HO491; clear BK486; clear HB; have HO491 := n0_; have BK486 := n1_; have HB := n2_; clear n0_ n1_ n2_; (try clear hb); (try clear hb2); (try clear hk); (try clear hi); obtain ⟨Ao60, co60, eo60⟩ := Kd.R_slice HO491.out; subst eo60))
              go_ret
              exact ⟨by first | rfl | (simp [errW_none, errW_some] <;> rfl) | (simp [*, errW_none, errW_some] <;> rfl), by repeat (first | (with_reducible first | exact HB.out | apply below_alloc | apply pw_below_drewN | apply below_drew1 | refine below_set ?_ GE486.out) | exact HB.out)⟩
          · rw [if_neg c47] at H
            have c47b0 : (t492 == t493) = false := beq_eq_false_iff_ne.mpr c47
            have c47b1 : (t492 != t493) = true := bne_iff_ne.mpr c47
            obtain rfl := Option.some.inj H
            have hcz61_0 : wc.cell? ⟨gb486, 0, none⟩ = some (.slice A0_0 l0_0.length c0_0) := (blk_cell BK486.out 0).trans rfl
            have hcz61_1 : wc.cell? ⟨gb486, 1, none⟩ = some (.slice A0_1 l0_1.length c0_1) := (blk_cell BK486.out 1).trans rfl
            have hfz61_0 := blk_frozen BK486.out 0
            have hfz61_1 := blk_frozen BK486.out 1
            go_wp2_with (first | ((with_reducible refine gate_callee (f := 26) rfl ?_); refine goesL_ (some 28) rfl rfl Try.func26 (by kernel_rfl) rfl #[.agg #[.slice A0_0 l0_0.length c0_0, .slice A0_1 l0_1.length c0_1], .slice A1 l1.length c1, .slice A2 l2.length c2] rfl (by (try simp only [List.map_toArray, List.map_cons, List.map_nil]); first | done | rfl | (simp only [List.length_drop, List.length_take]; rfl)) ?_; (with_reducible refine (cool_Again.calls _ _ l0_0 _ _ l0_1 _ _ l1 _ _ l2 t489 t492 _ ?side1 ?side2 ?side3 ?side4 ?side5 ?side6 ?side7 ?side8 A18.out).mono ?_); (case side1 => repeat (first | exact (Kd.C_below HR0_0.out HB.out) | (with_reducible refine Kd.C_alloc ?_ _) | (with_reducible refine Kd.C_drewN ?_ _) | (with_reducible refine Kd.C_drew ?_))); (case side2 => exact HC0_0.out); (case side3 => repeat (first | exact (Kd.C_below HR0_1.out HB.out) | (with_reducible refine Kd.C_alloc ?_ _) | (with_reducible refine Kd.C_drewN ?_ _) | (with_reducible refine Kd.C_drew ?_))); (case side4 => exact HC0_1.out); (case side5 => repeat (first | exact (Kd.C_below HR1.out HB.out) | (with_reducible refine Kd.C_alloc ?_ _) | (with_reducible refine Kd.C_drewN ?_ _) | (with_reducible refine Kd.C_drew ?_))); (case side6 => exact HC1.out); (case side7 => repeat (first | exact (Kd.C_below HR2.out HB.out) | (with_reducible refine Kd.C_alloc ?_ _) | (with_reducible refine Kd.C_drewN ?_ _) | (with_reducible refine Kd.C_drew ?_))); (case side8 => exact HC2.out); rintro e w62 ⟨v490, rfl, ho0, hb⟩; refine ⟨_, rfl, ?_⟩; have n0_ := Aside0.mk (Kd.R_lower ho0 (below_size (by repeat (first | (with_reducible first | exact HB.out | apply below_alloc | apply pw_below_drewN | apply below_drew1 | refine below_set ?_ GE486.out) | exact HB.out)))); have n1_ := Aside0.mk (blk_below (g := gb486) (o := .cells #[.slice A0_0 l0_0.length c0_0, .slice A0_1 l0_1.length c0_1] 25 (0, 0)) (by (with_reducible repeat (first | refine blk_drewN ?_ _ | refine blk_drew ?_ | refine blk_alloc ?_ _)); exact BK486.out) hb); have n2_ := Aside0.mk (below_step (by repeat (first | (with_reducible first | exact HB.out | apply below_alloc | apply pw_below_drewN | apply below_drew1 | refine below_set ?_ GE486.out) | exact HB.out)) hb); clear BK486; clear HB; have HO491 := n0_; have BK486 := n1_; have HB := n2_; clear n0_ n1_ n2_; (try clear hb); (try clear hb2); (try clear hk); (try clear hi); (try clear ho0); have hcz63_0 : w62.cell? ⟨gb486, 0, none⟩ = some (.slice A0_0 l0_0.length c0_0) := (blk_cell BK486.out 0).trans rfl; have hcz63_1 : w62.cell? ⟨gb486, 1, none⟩ = some (.slice A0_1 l0_1.length c0_1) := (blk_cell BK486.out 1).trans rfl; have hfz63_0 := blk_frozen BK486.out 0; have hfz63_1 := blk_frozen BK486.out 1) | ((with_reducible refine gate_callee (f := 27) rfl ?_); refine goesL_ (some 34) rfl rfl Try.func27 (by kernel_rfl) rfl #[.agg #[.slice A0_0 l0_0.length c0_0, .slice A0_1 l0_1.length c0_1], .slice A1 l1.length c1, .slice A2 l2.length c2] rfl (by (try simp only [List.map_toArray, List.map_cons, List.map_nil]); first | done | rfl | (simp only [List.length_drop, List.length_take]; rfl)) ?_; (with_reducible refine (taliklaw03_repaired.calls kj3 _ _ l0_0 _ _ l0_1 _ _ l1 _ _ l2 t493 _ ?side1 ?side2 ?side3 ?side4 ?side5 ?side6 ?side7 ?side8 A19.out).mono ?_); (case side1 => repeat (first | exact (Kd.C_below HR0_0.out HB.out) | (with_reducible refine Kd.C_alloc ?_ _) | (with_reducible refine Kd.C_drewN ?_ _) | (with_reducible refine Kd.C_drew ?_))); (case side2 => exact HC0_0.out); (case side3 => repeat (first | exact (Kd.C_below HR0_1.out HB.out) | (with_reducible refine Kd.C_alloc ?_ _) | (with_reducible refine Kd.C_drewN ?_ _) | (with_reducible refine Kd.C_drew ?_))); (case side4 => exact HC0_1.out); (case side5 => repeat (first | exact (Kd.C_below HR1.out HB.out) | (with_reducible refine Kd.C_alloc ?_ _) | (with_reducible refine Kd.C_drewN ?_ _) | (with_reducible refine Kd.C_drew ?_))); (case side6 => exact HC1.out); (case side7 => repeat (first | exact (Kd.C_below HR2.out HB.out) | (with_reducible refine Kd.C_alloc ?_ _) | (with_reducible refine Kd.C_drewN ?_ _) | (with_reducible refine Kd.C_drew ?_))); (case side8 => exact HC2.out); rintro e w64 ⟨rfl, hb⟩; refine ⟨_, rfl, ?_⟩; have n0_ := Aside0.mk (Kd.R_below (by (with_reducible repeat (first | apply Kd.R_alloc | apply Kd.R_drewN | apply Kd.R_drew)); exact HO491.out) hb); have n1_ := Aside0.mk (blk_below (g := gb486) (o := .cells #[.slice A0_0 l0_0.length c0_0, .slice A0_1 l0_1.length c0_1] 25 (0, 0)) (by (with_reducible repeat (first | refine blk_drewN ?_ _ | refine blk_drew ?_ | refine blk_alloc ?_ _)); exact BK486.out) hb); have n2_ := Aside0.mk (below_step (by repeat (first | (with_reducible first | exact HB.out | apply below_alloc | apply pw_below_drewN | apply below_drew1 | refine below_set ?_ GE486.out) | exact HB.out)) hb); clear HO491; clear BK486; clear HB; have HO491 := n0_; have BK486 := n1_; have HB := n2_; clear n0_ n1_ n2_; (try clear hb); (try clear hb2); (try clear hk); (try clear hi)))
            go_ret
            exact ⟨by first | rfl | (simp [errW_none, errW_some] <;> rfl) | (simp [*, errW_none, errW_some] <;> rfl), by repeat (first | (with_reducible first | exact HB.out | apply below_alloc | apply pw_below_drewN | apply below_drew1 | refine below_set ?_ GE486.out) | exact HB.out)⟩
end Go.Proofs.Ytmkdllaagaimlaa.C
end
section
namespace Go.Proofs.Ytmkdllaagaimlaa.C
open Go.RowKit Go.Proofs.YtmkdllaagaimlaaW.PrintWords Go.Proofs.YtmkdllaagaimlaaW.PrintLast Go.Proofs.YtmkdllaagaimlaaW.PrintMore
set_option linter.unusedVariables false
set_option linter.unusedSimpArgs false
theorem w1 {i : Nat} (h : i < 9223372036854775807) : wrap64 ((i : Int) + 1) = ((i + 1 : Nat) : Int) := by rw [wrap64_of _ (by omega) (by omega)]; omega
theorem rd_at {l : List Int} {i : Nat} (h : i < l.length) : rd l (i : Int) = l[i] := by simp [rd, List.getD_eq_getElem?_getD, List.getElem?_eq_getElem h]
theorem in_f (x a b : Int) : talikref03_in.f x a b = some (decide (a ≤ x) && decide (x ≤ b)) := by
  unfold talikref03_in.f
  by_cases h : x ≥ a
  · rw [if_pos h]; simp [show a ≤ x from h]
  · rw [if_neg h]; simp [show ¬ a ≤ x from h]
theorem Cold_f (a b : Int) : talikref03_Cold.f a b = some (spanB ⟨a, b⟩) := by
  unfold talikref03_Cold.f spanB
  by_cases h : a ≥ 0
  · rw [if_pos h]
    by_cases h2 : a ≤ b
    · rw [if_pos h2]; simp [show (0 : Int) ≤ a from h, h2]
    · rw [if_neg h2]; simp [h2]
  · rw [if_neg h]; simp [show ¬ (0 : Int) ≤ a from h]
theorem drop_at {l : List Int} {i : Nat} (h : i < l.length) : ∃ x, rd l (i : Int) = x ∧ l.drop i = x :: l.drop (i + 1) := ⟨_, rfl, rd_drop h⟩
theorem has_l0 (l : List Int) (a : Int) (hl : l.length ≤ 9223372036854775807) : ∀ d i : Nat, i + d = l.length → Ev (fun k => talikref03_Has.l0 k l a i) (decide (a ∈ l.drop i)) := by
  intro d
  induction d with
  | zero =>
    intro i hi
    refine Ev.step (f := fun _ => some false) (fun k => ?_) ?_
    · simp only [talikref03_Has.l0]; rw [if_neg (by omega)]
    · rw [List.drop_eq_nil_of_le (by omega)]; exact Ev.now _
  | succ d ih =>
    intro i hi
    have hlt : i < l.length := by omega
    obtain ⟨x, hx, hd⟩ := drop_at hlt
    rw [hd]
    by_cases he : x = a
    · refine Ev.step (f := fun _ => some true) (fun k => ?_) ?_
      · simp only [talikref03_Has.l0]; rw [if_pos (by omega), if_pos (by omega), hx, if_pos he]
      · simp [he]; exact Ev.now _
    · refine Ev.step (f := fun k => talikref03_Has.l0 k l a ((i + 1 : Nat) : Int)) (fun k => ?_) ?_
      · simp only [talikref03_Has.l0]; rw [if_pos (by omega), if_pos (by omega), hx, if_neg he, w1 (by omega)]
      · have : decide (a ∈ x :: l.drop (i + 1)) = decide (a ∈ l.drop (i + 1)) := by
          simp [show ¬ a = x from fun e => he e.symm]
        rw [this]; exact ih (i + 1) (by omega)
theorem Has_ev (l : List Int) (a : Int) (hl : l.length ≤ 9223372036854775807) : Ev (fun k => talikref03_Has.f k l a) (decide (a ∈ l)) := by
  have := has_l0 l a hl l.length 0 (by omega)
  simpa [talikref03_Has.f] using this
def wo (l c : List Int) : List Int := l.filter fun x => !decide (x ∈ c)
theorem without_l0 (l c : List Int) (hl : l.length ≤ 1000) (hc : c.length ≤ 1000) : ∀ (d i : Nat) (acc : List Int), i + d = l.length → acc.length ≤ i → Ev (fun k => talikref03_Without.l0 k l c acc i) (acc ++ wo (l.drop i) c) := by
  intro d
  induction d with
  | zero =>
    intro i acc hi _
    refine Ev.step (f := fun _ => some acc) (fun k => ?_) ?_
    · simp only [talikref03_Without.l0]; rw [if_neg (by omega)]
    · rw [List.drop_eq_nil_of_le (by omega)]; simp [wo]; exact Ev.now _
  | succ d ih =>
    intro i acc hi ha
    have hlt : i < l.length := by omega
    obtain ⟨x, hx, hd⟩ := drop_at hlt
    have hh := Has_ev c x (by omega)
    rw [hd]
    refine Ev.step (f := fun k => (talikref03_Has.f k c x).bind fun t => if t = true then talikref03_Without.l0 k l c acc ((i + 1 : Nat) : Int) else talikref03_Without.l0 k l c (acc ++ [x]) ((i + 1 : Nat) : Int)) (fun k => ?_) (Ev.bind hh ?_)
    · simp only [talikref03_Without.l0]; rw [if_pos (by omega), if_pos (by omega), hx, w1 (by omega)]
      simp only [show acc.length < 17592186044416 by omega, if_true]
    · by_cases hm : x ∈ c
      · simp only [hm, decide_true, if_true]
        have e : wo (x :: l.drop (i + 1)) c = wo (l.drop (i + 1)) c := by simp [wo, hm]
        rw [e]; exact ih (i + 1) acc (by omega) (by omega)
      · simp only [hm, decide_false, if_false, Bool.false_eq_true]
        have e : acc ++ wo (x :: l.drop (i + 1)) c = (acc ++ [x]) ++ wo (l.drop (i + 1)) c := by simp [wo, hm]
        rw [e]; exact ih (i + 1) _ (by omega) (by simp; omega)
theorem Without_ev (l c : List Int) (hl : l.length ≤ 1000) (hc : c.length ≤ 1000) : Ev (fun k => talikref03_Without.f k l c) (wo l c) := by
  have := without_l0 l c hl hc l.length 0 [] (by omega) (by simp)
  simpa [talikref03_Without.f] using this
def shortB (H : List S60) (S : List S64) : Bool := (S.take 15).all (fun s => decide (s.f2.length ≤ 10)) && (decide (H.length ≤ 10) && decide (S.length ≤ 15))
theorem rd64_at {S : List S64} {i : Nat} (h : i < S.length) : rd_T64 S (i : Int) = S[i] := by simp [rd_T64, List.getD_eq_getElem?_getD, List.getElem?_eq_getElem h]
theorem rd60_at {S : List S60} {i : Nat} (h : i < S.length) : rd_T60 S (i : Int) = S[i] := by simp [rd_T60, List.getD_eq_getElem?_getD, List.getElem?_eq_getElem h]
theorem rd58_at {S : List S58} {i : Nat} (h : i < S.length) : rd_T58 S (i : Int) = S[i] := by simp [rd_T58, List.getD_eq_getElem?_getD, List.getElem?_eq_getElem h]
theorem short_l0 (H : List S60) (S : List S64) (hS : S.length ≤ 9223372036854775807) : ∀ d i : Nat, i + d = 15 → (i ≤ S.length) → Ev (fun k => taliklaw03_short.l0 k i H S) (((S.drop i).take d).all (fun s => decide (s.f2.length ≤ 10)) && (decide (H.length ≤ 10) && decide (S.length ≤ 15))) := by
  have fin : Ev (fun (_ : Nat) => if (H.length : Int) ≤ 10 then some (decide ((S.length : Int) ≤ 15)) else some false) (decide (H.length ≤ 10) && decide (S.length ≤ 15)) := by
    refine ⟨0, fun _ _ => ?_⟩
    by_cases h : H.length ≤ 10
    · rw [if_pos (by omega)]
      simp only [h, decide_true, Bool.true_and, Option.some.injEq]
      rw [decide_eq_decide]; omega
    · rw [if_neg (by omega)]; simp [h]
  intro d
  induction d with
  | zero =>
    intro i hi hiS
    refine Ev.step (f := fun k => taliklaw03_short.j1 k i false H S) (fun k => ?_) (Ev.step (f := fun _ => if (H.length : Int) ≤ 10 then some (decide ((S.length : Int) ≤ 15)) else some false) (fun k => ?_) (by simpa using fin))
    · simp only [taliklaw03_short.l0]
      by_cases h : (i : Int) < (S.length : Int)
      · rw [if_pos h, decide_eq_false (by omega)]
      · rw [if_neg h]
    · simp only [taliklaw03_short.j1]; rw [if_neg (by simp)]
  | succ d ih =>
    intro i hi hiS
    by_cases hlt : i < S.length
    · have hd : S.drop i = S[i] :: S.drop (i + 1) := List.drop_eq_getElem_cons hlt
      obtain ⟨x, hx⟩ : ∃ x, S[i] = x := ⟨_, rfl⟩
      rw [hx] at hd
      rw [hd, List.take_succ_cons, List.all_cons]
      by_cases hg : x.f2.length ≤ 10
      · refine Ev.step (f := fun k => taliklaw03_short.j1 k i true H S) (fun k => ?_) (Ev.step (f := fun k => taliklaw03_short.l0 k ((i + 1 : Nat) : Int) H S) (fun k => ?_) ?_)
        · simp only [taliklaw03_short.l0]; rw [if_pos (by omega), decide_eq_true (by omega)]
        · simp only [taliklaw03_short.j1]; rw [if_pos trivial, if_pos (by omega), if_pos (by omega), rd64_at hlt, hx, if_neg (by omega), w1 (by omega)]
        · simp only [hg, decide_true, Bool.true_and]
          exact ih (i + 1) (by omega) (by omega)
      · refine Ev.step (f := fun k => taliklaw03_short.j1 k i true H S) (fun k => ?_) (Ev.step (f := fun _ => some false) (fun k => ?_) ?_)
        · simp only [taliklaw03_short.l0]; rw [if_pos (by omega), decide_eq_true (by omega)]
        · simp only [taliklaw03_short.j1]; rw [if_pos trivial, if_pos (by omega), if_pos (by omega), rd64_at hlt, hx, if_pos (by omega)]
        · simp only [hg, decide_false, Bool.false_and]; exact Ev.now _
    · refine Ev.step (f := fun k => taliklaw03_short.j1 k i false H S) (fun k => ?_) (Ev.step (f := fun _ => if (H.length : Int) ≤ 10 then some (decide ((S.length : Int) ≤ 15)) else some false) (fun k => ?_) (by rw [List.drop_eq_nil_of_le (by omega)]; simpa using fin))
      · simp only [taliklaw03_short.l0]; rw [if_neg (by omega)]
      · simp only [taliklaw03_short.j1]; rw [if_neg (by simp)]
theorem short_ev (H : List S60) (S : List S64) (hS : S.length ≤ 9223372036854775807) : Ev (fun k => taliklaw03_short.f k H S) (shortB H S) := by
  have := short_l0 H S hS 15 0 rfl (Nat.zero_le _)
  simpa [taliklaw03_short.f, shortB] using this
theorem all_bool (b c : Bool) (g : Nat → Option Bool) (h : Ev g c) : Ev (fun k => if b = true then g k else some false) (b && c) := by
  cases b with
  | true => simpa using h
  | false => exact ⟨0, fun _ _ => by simp⟩
theorem town_l2 (H : List S60) (S : List S64) (i : Nat) (a b : Int) (G : List S58) (hG : G.length ≤ 9223372036854775807) (r : Bool) (hr : Ev (fun k => talikref03_Town.l1 k (wrap64 ((i : Int) + 1)) H S) r) : ∀ d j : Nat, j + d = G.length → Ev (fun k => talikref03_Town.l2 k i j H S a b G) ((G.drop j).all spanB && r) := by
  intro d
  induction d with
  | zero =>
    intro j hj
    refine Ev.step (f := fun k => talikref03_Town.l1 k (wrap64 ((i : Int) + 1)) H S) (fun k => ?_) ?_
    · simp only [talikref03_Town.l2]; rw [if_neg (by omega)]
    · rw [List.drop_eq_nil_of_le (by omega)]; simpa using hr
  | succ d ih =>
    intro j hj
    have hlt : j < G.length := by omega
    have hd : G.drop j = G[j] :: G.drop (j + 1) := List.drop_eq_getElem_cons hlt
    obtain ⟨x, hx⟩ : ∃ x, G[j] = x := ⟨_, rfl⟩
    rw [hx] at hd
    rw [hd, List.all_cons, Bool.and_assoc]
    refine Ev.step (f := fun k => if spanB x = true then talikref03_Town.l2 k i ((j + 1 : Nat) : Int) H S a b G else some false) (fun k => ?_) (all_bool _ _ _ (ih (j + 1) (by omega)))
    simp only [talikref03_Town.l2]; rw [if_pos (by omega), if_pos (by omega), rd58_at hlt, hx, Cold_f, w1 (by omega)]; rfl
theorem town_l1 (H : List S60) (S : List S64) (hS : S.length ≤ 9223372036854775807) (hG : ∀ s ∈ S, s.f2.length ≤ 9223372036854775807) : ∀ d i : Nat, i + d = S.length → Ev (fun k => talikref03_Town.l1 k i H S) ((S.drop i).all (siteB H.length) && ((decide (1 ≤ H.length) && decide (H.length ≤ 6)) && (decide (1 ≤ S.length) && decide (S.length ≤ 10)))) := by
  intro d
  induction d with
  | zero =>
    intro i hi
    refine Ev.step (f := fun _ => some ((decide (1 ≤ H.length) && decide (H.length ≤ 6)) && (decide (1 ≤ S.length) && decide (S.length ≤ 10)))) (fun k => ?_) ?_
    · simp only [talikref03_Town.l1]; rw [if_neg (by omega), in_f, in_f]
      simp only [Option.bind_some]
      have e1 : (decide ((1 : Int) ≤ (H.length : Int)) && decide ((H.length : Int) ≤ 6)) = (decide (1 ≤ H.length) && decide (H.length ≤ 6)) := by rw [Bool.eq_iff_iff]; simp; omega
      have e2 : (decide ((1 : Int) ≤ (S.length : Int)) && decide ((S.length : Int) ≤ 10)) = (decide (1 ≤ S.length) && decide (S.length ≤ 10)) := by rw [Bool.eq_iff_iff]; simp; omega
      rw [e1, e2]
      cases (decide (1 ≤ H.length) && decide (H.length ≤ 6)) <;> simp
    · rw [List.drop_eq_nil_of_le (by omega)]; simp only [List.all_nil, Bool.true_and]; exact Ev.now _
  | succ d ih =>
    intro i hi
    have hlt : i < S.length := by omega
    have hd : S.drop i = S[i] :: S.drop (i + 1) := List.drop_eq_getElem_cons hlt
    have hxm : S[i] ∈ S := List.getElem_mem hlt
    obtain ⟨x, hx⟩ : ∃ x, S[i] = x := ⟨_, rfl⟩
    rw [hx] at hd hxm
    rw [hd, List.all_cons]
    have h2 := town_l2 H S i x.f0 x.f1 x.f2 (hG x hxm) _ (by rw [w1 (by omega)]; exact ih (i + 1) (by omega)) x.f2.length 0 (by omega)
    have hj : ∀ b : Bool, Ev (fun k => talikref03_Town.j2 k i b H S x.f0 x.f1 x.f2) (!b && (x.f2.all spanB && ((S.drop (i + 1)).all (siteB H.length) && ((decide (1 ≤ H.length) && decide (H.length ≤ 6)) && (decide (1 ≤ S.length) && decide (S.length ≤ 10)))))) := by
      intro b
      cases b with
      | true => exact Ev.step (f := fun _ => some false) (fun k => by simp [talikref03_Town.j2]) (Ev.now _)
      | false => exact Ev.step (f := fun k => talikref03_Town.l2 k i 0 H S x.f0 x.f1 x.f2) (fun k => by simp [talikref03_Town.j2]) (by simpa using h2)
    obtain ⟨b1, hb1⟩ : ∃ b, (decide (0 ≤ x.f0) && decide (x.f0 ≤ 1000000)) = b := ⟨_, rfl⟩
    obtain ⟨b2, hb2⟩ : ∃ b, (decide (1 ≤ x.f1) && decide (x.f1 ≤ 100)) = b := ⟨_, rfl⟩
    have e3 : ((x.f2.length : Int) != (H.length : Int)) = !decide (x.f2.length = H.length) := by
      rw [Bool.eq_iff_iff]; simp; omega
    have es : (siteB H.length x && ((S.drop (i + 1)).all (siteB H.length))) = (b1 && (b2 && (decide (x.f2.length = H.length) && (x.f2.all spanB && (S.drop (i + 1)).all (siteB H.length))))) := by
      unfold siteB
      rw [hb1, hb2]
      simp only [Bool.and_assoc]
    rw [es]
    simp only [Bool.and_assoc] at hj ⊢
    refine Ev.step (f := fun k => if b1 = true then (if b2 = true then talikref03_Town.j2 k i (!decide (x.f2.length = H.length)) H S x.f0 x.f1 x.f2 else talikref03_Town.j2 k i true H S x.f0 x.f1 x.f2) else talikref03_Town.j2 k i true H S x.f0 x.f1 x.f2) (fun k => ?_) ?_
    · simp only [talikref03_Town.l1]; rw [if_pos (by omega), if_pos (by omega), rd64_at hlt, hx, in_f, in_f, hb1, hb2, e3]
      cases b1 <;> cases b2 <;> simp
    · cases b1 with
      | false => simpa using hj true
      | true =>
        cases b2 with
        | false => simpa using hj true
        | true => simpa using hj (!decide (x.f2.length = H.length))
theorem town_l0 (H : List S60) (S : List S64) (hH : H.length ≤ 9223372036854775807) (hS : S.length ≤ 9223372036854775807) (hG : ∀ s ∈ S, s.f2.length ≤ 9223372036854775807) : ∀ d i : Nat, i + d = H.length → Ev (fun k => talikref03_Town.l0 k i H S) ((H.drop i).all houseB && (S.all (siteB H.length) && ((decide (1 ≤ H.length) && decide (H.length ≤ 6)) && (decide (1 ≤ S.length) && decide (S.length ≤ 10))))) := by
  intro d
  induction d with
  | zero =>
    intro i hi
    refine Ev.step (f := fun k => talikref03_Town.l1 k 0 H S) (fun k => ?_) ?_
    · simp only [talikref03_Town.l0]; rw [if_neg (by omega)]
    · rw [List.drop_eq_nil_of_le (by omega)]; simpa using town_l1 H S hS hG S.length 0 (by omega)
  | succ d ih =>
    intro i hi
    have hlt : i < H.length := by omega
    have hd : H.drop i = H[i] :: H.drop (i + 1) := List.drop_eq_getElem_cons hlt
    obtain ⟨x, hx⟩ : ∃ x, H[i] = x := ⟨_, rfl⟩
    rw [hx] at hd
    rw [hd, List.all_cons, Bool.and_assoc]
    refine Ev.step (f := fun k => if houseB x = true then talikref03_Town.l0 k ((i + 1 : Nat) : Int) H S else some false) (fun k => ?_) (all_bool _ _ _ (ih (i + 1) (by omega)))
    simp only [talikref03_Town.l0]; rw [if_pos (by omega), if_pos (by omega), rd60_at hlt, hx, Cold_f, in_f, w1 (by omega)]
    unfold houseB
    simp only [Option.bind_some, Bool.and_assoc]
    cases spanB x.f0 <;> simp
theorem Town_ev (H : List S60) (S : List S64) (hH : H.length ≤ 9223372036854775807) (hS : S.length ≤ 9223372036854775807) (hG : ∀ s ∈ S, s.f2.length ≤ 9223372036854775807) : Ev (fun k => talikref03_Town.f k H S) (validB H S) := by
  have h := town_l0 H S hH hS hG H.length 0 (by omega)
  have e : validB H S = (H.all houseB && (S.all (siteB H.length) && ((decide (1 ≤ H.length) && decide (H.length ≤ 6)) && (decide (1 ≤ S.length) && decide (S.length ≤ 10))))) := by
    unfold validB
    rw [Bool.eq_iff_iff]
    simp only [Bool.and_eq_true]
    constructor
    · rintro ⟨⟨⟨h1, h2⟩, h3⟩, h4⟩; exact ⟨h3, h4, h1, h2⟩
    · rintro ⟨h3, h4, h1, h2⟩; exact ⟨⟨⟨h1, h2⟩, h3⟩, h4⟩
  rw [e]
  simpa [talikref03_Town.f] using h
theorem coolers_l0 (H : List S60) (S : List S64) (l : List Int) (hS : S.length ≤ 9223372036854775807) (hl : l.length ≤ 9223372036854775807) : ∀ (d i : Nat), i + d = l.length → ∀ p : Int, (i = 0 → p = -1) → (i ≠ 0 → rd l ((i : Int) - 1) = p ∧ 0 ≤ p) → Ev (fun k => talikref03_Coolers.l0 k l i H S) (incr S.length p (l.drop i)) := by
  intro d
  induction d with
  | zero =>
    intro i hi p _ _
    refine Ev.step (f := fun _ => some true) (fun k => ?_) ?_
    · simp only [talikref03_Coolers.l0]; rw [if_neg (by omega)]
    · rw [List.drop_eq_nil_of_le (by omega)]; exact Ev.now _
  | succ d ih =>
    intro i hi p hp0 hp1
    have hlt : i < l.length := by omega
    obtain ⟨x, hx, hd⟩ := drop_at hlt
    rw [hd]
    have hw : wrap64 ((S.length : Int) - 1) = (S.length : Int) - 1 := wrap64_of _ (by omega) (by omega)
    have hwi : wrap64 ((i : Int) - 1) = (i : Int) - 1 := wrap64_of _ (by omega) (by omega)
    by_cases hin : 0 ≤ x ∧ x < (S.length : Int)
    · have e1 : (decide (0 ≤ x) && decide (x ≤ (S.length : Int) - 1)) = true := by simp; omega
      have e2 : (decide (0 ≤ x) && decide (x < (S.length : Int))) = true := by simp; omega
      have hnx := ih (i + 1) (by omega) x (by omega) (fun _ => ⟨by rw [show ((i + 1 : Nat) : Int) - 1 = (i : Int) by omega]; exact hx, hin.1⟩)
      by_cases hpx : p < x
      · refine Ev.step (f := fun k => talikref03_Coolers.l0 k l ((i + 1 : Nat) : Int) H S) (fun k => ?_) ?_
        · simp only [talikref03_Coolers.l0]; rw [if_pos (by omega), if_pos (by omega), hx, hw, in_f, e1, w1 (by omega)]
          simp only [Option.bind_some, if_true]
          by_cases hi0 : i = 0
          · rw [if_neg (by omega)]
          · rw [if_pos (by omega), hwi, if_pos (by omega), if_pos (by omega), (hp1 hi0).1, if_neg (by omega)]
        · have e : incr S.length p (x :: l.drop (i + 1)) = incr S.length x (l.drop (i + 1)) := by simp only [incr, e2, hpx, decide_true, Bool.true_and]
          rw [e]; exact hnx
      · have hi0 : i ≠ 0 := fun e => hpx (by rw [hp0 e]; omega)
        refine Ev.step (f := fun _ => some false) (fun k => ?_) ?_
        · simp only [talikref03_Coolers.l0]; rw [if_pos (by omega), if_pos (by omega), hx, hw, in_f, e1]
          simp only [Option.bind_some, if_true]
          rw [if_pos (by omega), hwi, if_pos (by omega), if_pos (by omega), (hp1 hi0).1, if_pos (by omega)]
        · simp only [incr, hpx, decide_false, Bool.false_and]; exact Ev.now _
    · have e1 : (decide (0 ≤ x) && decide (x ≤ (S.length : Int) - 1)) = false := by simp; omega
      have e2 : (decide (0 ≤ x) && decide (x < (S.length : Int))) = false := by simp; omega
      refine Ev.step (f := fun _ => some false) (fun k => ?_) ?_
      · simp only [talikref03_Coolers.l0]; rw [if_pos (by omega), if_pos (by omega), hx, hw, in_f, e1]
        simp
      · simp only [incr, e2, Bool.and_false, Bool.false_and]; exact Ev.now _
theorem Coolers_ev (H : List S60) (S : List S64) (l : List Int) (hS : S.length ≤ 9223372036854775807) (hl : l.length ≤ 9223372036854775807) : Ev (fun k => talikref03_Coolers.f k H S l) (incr S.length (-1) l) := by
  have := coolers_l0 H S l hS hl l.length 0 (by omega) (-1) (fun _ => rfl) (fun h => absurd rfl h)
  simpa [talikref03_Coolers.f] using this
def askedB (H : List S60) (S : List S64) (l : List Int) : Bool := validB H S && incr S.length (-1) l
theorem asked_ev (H : List S60) (S : List S64) (l : List Int) (hH : H.length ≤ 9223372036854775807) (hS : S.length ≤ 9223372036854775807) (hG : ∀ s ∈ S, s.f2.length ≤ 9223372036854775807) (hl : l.length ≤ 9223372036854775807) : Ev (fun k => taliklaw03_asked.f k H S l) (askedB H S l) := by
  unfold taliklaw03_asked.f askedB
  refine Ev.bind (Town_ev H S hH hS hG) ?_
  refine all_bool _ _ _ ?_
  exact Ev.congr (fun k => by cases talikref03_Coolers.f k H S l <;> rfl) (Coolers_ev H S l hS hl)
end Go.Proofs.Ytmkdllaagaimlaa.C
end
section
namespace Go.Proofs.Ytmkdllaagaimlaa.C
open Go.RowKit Go.Proofs.YtmkdllaagaimlaaW.PrintWords Go.Proofs.YtmkdllaagaimlaaW.PrintLast Go.Proofs.YtmkdllaagaimlaaW.PrintMore
set_option linter.unusedVariables false
set_option linter.unusedSimpArgs false
def needsW (H : List S60) : List Int := H.map fun x => x.f0.f1
def givesW (S : List S64) : List (List Int) := S.map fun s => s.f2.map fun x => x.f0
theorem worst_l2 (H : List S60) (S : List S64) (i : Nat) (hi : i < S.length) (hr : S[i].f2.length = H.length) (hH : H.length ≤ 1000) (N : List Int) (Gs : List (List Int)) (hGs : Gs.length ≤ 1000) (r : List Int × List (List Int)) (hk : Ev (fun k => talikref03_Worst.l1 k (wrap64 ((i : Int) + 1)) H S N (Gs ++ [S[i].f2.map fun x => x.f0])) r) :
    ∀ d j : Nat, j + d = H.length → Ev (fun k => talikref03_Worst.l2 k i ((S[i].f2.take j).map fun x => x.f0) j H S N Gs) r := by
  intro d
  induction d with
  | zero =>
    intro j hj
    rw [List.take_of_length_le (by omega)]
    refine Ev.step (f := fun k => talikref03_Worst.l1 k (wrap64 ((i : Int) + 1)) H S N (Gs ++ [S[i].f2.map fun x => x.f0])) (fun k => ?_) hk
    simp only [talikref03_Worst.l2]; rw [if_neg (by omega), if_pos (by omega)]
  | succ d ih =>
    intro j hj
    have hlt : j < S[i].f2.length := by omega
    refine Ev.step (f := fun k => talikref03_Worst.l2 k i ((S[i].f2.take (j + 1)).map fun x => x.f0) ((j + 1 : Nat) : Int) H S N Gs) (fun k => ?_) (ih (j + 1) (by omega))
    simp only [talikref03_Worst.l2]
    rw [if_pos (by omega), if_pos (by omega), if_pos (by omega), if_pos (by omega), rd64_at hi, if_pos (by omega), rd58_at hlt, w1 (by omega), if_pos (by simp; omega), List.take_succ_eq_append_getElem hlt, List.map_append]
    rfl
theorem worst_l1 (H : List S60) (S : List S64) (hH : H.length ≤ 1000) (hS : S.length ≤ 1000) (hr : ∀ s ∈ S, s.f2.length = H.length) (N : List Int) : ∀ d i : Nat, i + d = S.length → Ev (fun k => talikref03_Worst.l1 k i H S N (givesW (S.take i))) (N, givesW S) := by
  intro d
  induction d with
  | zero =>
    intro i hi
    rw [List.take_of_length_le (by omega)]
    refine Ev.step (f := fun _ => some (N, givesW S)) (fun k => ?_) (Ev.now _)
    simp only [talikref03_Worst.l1]; rw [if_neg (by omega)]
  | succ d ih =>
    intro i hi
    have hlt : i < S.length := by omega
    have hl : (givesW (S.take i)).length ≤ 1000 := by simp [givesW]; omega
    refine Ev.step (f := fun k => talikref03_Worst.l2 k i [] 0 H S N (givesW (S.take i))) (fun k => ?_) ?_
    · simp only [talikref03_Worst.l1]; rw [if_pos (by omega)]
    · have := worst_l2 H S i hlt (hr _ (List.getElem_mem hlt)) hH N (givesW (S.take i)) hl (N, givesW S) (by
        have h := ih (i + 1) (by omega)
        rw [List.take_succ_eq_append_getElem hlt] at h
        rw [w1 (by omega)]
        rw [show givesW (S.take i ++ [S[i]]) = givesW (S.take i) ++ [S[i].f2.map fun x => x.f0] by unfold givesW; rw [List.map_append]; rfl] at h
        exact h) H.length 0 (by omega)
      simpa using this
theorem worst_l0 (H : List S60) (S : List S64) (hH : H.length ≤ 1000) (hS : S.length ≤ 1000) (hr : ∀ s ∈ S, s.f2.length = H.length) : ∀ d i : Nat, i + d = H.length → Ev (fun k => talikref03_Worst.l0 k i H S (needsW (H.take i))) (needsW H, givesW S) := by
  intro d
  induction d with
  | zero =>
    intro i hi
    rw [List.take_of_length_le (by omega)]
    refine Ev.step (f := fun k => talikref03_Worst.l1 k 0 H S (needsW H) []) (fun k => ?_) ?_
    · simp only [talikref03_Worst.l0]; rw [if_neg (by omega)]
    · have := worst_l1 H S hH hS hr (needsW H) S.length 0 (by omega)
      simpa [givesW] using this
  | succ d ih =>
    intro i hi
    have hlt : i < H.length := by omega
    refine Ev.step (f := fun k => talikref03_Worst.l0 k ((i + 1 : Nat) : Int) H S (needsW (H.take (i + 1)))) (fun k => ?_) (ih (i + 1) (by omega))
    simp only [talikref03_Worst.l0]; rw [if_pos (by omega), if_pos (by omega), if_pos (by simp [needsW]; omega), rd60_at hlt, w1 (by omega), List.take_succ_eq_append_getElem hlt, show needsW (H.take i ++ [H[i]]) = needsW (H.take i) ++ [H[i].f0.f1] by unfold needsW; rw [List.map_append]; rfl]
theorem Worst_ev (H : List S60) (S : List S64) (hH : H.length ≤ 1000) (hS : S.length ≤ 1000) (hr : ∀ s ∈ S, s.f2.length = H.length) : Ev (fun k => talikref03_Worst.f k H S) (needsW H, givesW S) := by
  have := worst_l0 H S hH hS hr H.length 0 (by omega)
  simpa [talikref03_Worst.f, needsW] using this
def overW (N : List Int) (G : List (List Int)) (l : List Int) (h : Nat) : Int := -(rd N (h : Int)) + (l.map fun x => rd (rd_L8 G x) (h : Int)).sum
structure TruthOk (H : List S60) (S : List S64) (N : List Int) (G : List (List Int)) : Prop where
  n : N.length = H.length
  g : G.length = S.length
  r : ∀ i : Nat, i < S.length → (rd_L8 G (i : Int)).length = H.length
  bn : ∀ h : Nat, h < H.length → 0 ≤ rd N (h : Int) ∧ rd N (h : Int) ≤ 1000000
  bg : ∀ i h : Nat, i < S.length → h < H.length → 0 ≤ rd (rd_L8 G (i : Int)) (h : Int) ∧ rd (rd_L8 G (i : Int)) (h : Int) ≤ 1000000
theorem sum_bd {l : List Int} {f : Int → Int} {m : Int} (h : ∀ x ∈ l, 0 ≤ f x ∧ f x ≤ m) : 0 ≤ (l.map f).sum ∧ (l.map f).sum ≤ m * l.length := by
  induction l with
  | nil => simp
  | cons a r ih =>
    have h1 := h a (by simp)
    have h2 := ih fun x hx => h x (by simp [hx])
    simp only [List.map_cons, List.sum_cons, List.length_cons]
    have : m * ((r.length + 1 : Nat) : Int) = m * r.length + m := by rw [Int.natCast_add, Int.mul_add]; simp
    omega
theorem over_l1 (H : List S60) (S : List S64) (hH : H.length ≤ 1000) (hS : S.length ≤ 1000) (N : List Int) (G : List (List Int)) (hT : TruthOk H S N G) (l : List Int) (hl : l.length ≤ 1000) (hb : ∀ x ∈ l, 0 ≤ x ∧ x < S.length) (h : Nat) (hh : h < H.length) (out : List Int) (hout : out.length ≤ 1000) (r : List Int)
    (hk : Ev (fun k => talikref03_Over.l0 k l (out ++ [overW N G l h]) (wrap64 ((h : Int) + 1)) H S N G) r) :
    ∀ d i : Nat, i + d = l.length → Ev (fun k => talikref03_Over.l1 k l out h (overW N G (l.take i) h) i H S N G) r := by
  have hbd : ∀ i : Nat, i ≤ l.length → -1000000 ≤ overW N G (l.take i) h ∧ overW N G (l.take i) h ≤ 1000000000 := by
    intro i hi
    have h1 := hT.bn h hh
    have h2 := sum_bd (l := l.take i) (f := fun x => rd (rd_L8 G x) (h : Int)) (m := 1000000) (fun x hx => by
      have hx' := hb x (List.mem_of_mem_take hx)
      obtain ⟨n, rfl⟩ := Int.eq_ofNat_of_zero_le hx'.1
      exact hT.bg n h (by omega) hh)
    have h3 : (l.take i).length ≤ 1000 := by rw [List.length_take]; omega
    unfold overW
    have h4 : (1000000 : Int) * ((l.take i).length : Int) ≤ 1000000000 := by omega
    omega
  intro d
  induction d with
  | zero =>
    intro i hi
    rw [List.take_of_length_le (by omega)]
    refine Ev.step (f := fun k => talikref03_Over.l0 k l (out ++ [overW N G l h]) (wrap64 ((h : Int) + 1)) H S N G) (fun k => ?_) hk
    simp only [talikref03_Over.l1]; rw [if_neg (by omega), if_pos (by omega)]
  | succ d ih =>
    intro i hi
    have hlt : i < l.length := by omega
    have hx := hb l[i] (List.getElem_mem hlt)
    obtain ⟨n, hn⟩ := Int.eq_ofNat_of_zero_le hx.1
    have hnS : n < S.length := by omega
    refine Ev.step (f := fun k => talikref03_Over.l1 k l out h (overW N G (l.take (i + 1)) h) ((i + 1 : Nat) : Int) H S N G) (fun k => ?_) (ih (i + 1) (by omega))
    have h1 := hbd i (by omega)
    have h2 := hT.bg n h hnS hh
    have e : overW N G (l.take (i + 1)) h = overW N G (l.take i) h + rd (rd_L8 G (n : Int)) (h : Int) := by
      unfold overW
      rw [List.take_succ_eq_append_getElem hlt, List.map_append, List.sum_append, hn]
      simp only [List.map_cons, List.map_nil, List.sum_cons, List.sum_nil]
      omega
    simp only [talikref03_Over.l1]
    have hr := hT.r n hnS
    have hg := hT.g
    rw [if_pos (by omega), if_pos (by omega), rd_at hlt, hn, if_pos (by omega), if_pos (by omega), if_pos (by omega), if_pos (by omega), w1 (by omega), wrap64_of _ (by omega) (by omega), e]
theorem over_l0 (H : List S60) (S : List S64) (hH : H.length ≤ 1000) (hS : S.length ≤ 1000) (N : List Int) (G : List (List Int)) (hT : TruthOk H S N G) (l : List Int) (hl : l.length ≤ 1000) (hb : ∀ x ∈ l, 0 ≤ x ∧ x < S.length) : ∀ d h : Nat, h + d = H.length → Ev (fun k => talikref03_Over.l0 k l ((List.range h).map (overW N G l)) h H S N G) ((List.range H.length).map (overW N G l)) := by
  intro d
  induction d with
  | zero =>
    intro h hh
    obtain rfl : h = H.length := by omega
    refine Ev.step (f := fun _ => some ((List.range H.length).map (overW N G l))) (fun k => ?_) (Ev.now _)
    simp only [talikref03_Over.l0]; rw [if_neg (by omega)]
  | succ d ih =>
    intro h hh
    have hlt : h < H.length := by omega
    have hn := hT.bn h hlt
    have hN := hT.n
    refine Ev.step (f := fun k => talikref03_Over.l1 k l ((List.range h).map (overW N G l)) h (overW N G (l.take 0) h) ((0 : Nat) : Int) H S N G) (fun k => ?_) ?_
    · simp only [talikref03_Over.l0]
      rw [if_pos (by omega), if_pos (by omega), if_pos (by omega), wrap64_of _ (by omega) (by omega)]
      simp [overW]
    · refine over_l1 H S hH hS N G hT l hl hb h hlt _ (by simp; omega) _ ?_ l.length 0 (by omega)
      have := ih (h + 1) (by omega)
      rw [List.range_succ, List.map_append] at this
      rw [w1 (by omega)]
      exact this
theorem Over_ev (H : List S60) (S : List S64) (hH : H.length ≤ 1000) (hS : S.length ≤ 1000) (N : List Int) (G : List (List Int)) (hT : TruthOk H S N G) (l : List Int) (hl : l.length ≤ 1000) (hb : ∀ x ∈ l, 0 ≤ x ∧ x < S.length) : Ev (fun k => talikref03_Over.f k H S l N G) ((List.range H.length).map (overW N G l)) := by
  have := over_l0 H S hH hS N G hT l hl hb H.length 0 (by omega)
  simpa [talikref03_Over.f] using this
theorem valid_more {H : List S60} {S : List S64} (h : validB H S = true) : (∀ s ∈ S, s.f2.length = H.length) ∧ (∀ x ∈ H, spanB x.f0 = true ∧ 0 ≤ x.f1 ∧ x.f1 ≤ 100) ∧ (∀ s ∈ S, 0 ≤ s.f0 ∧ s.f0 ≤ 1000000 ∧ 1 ≤ s.f1 ∧ s.f1 ≤ 100 ∧ s.f2.all spanB = true) := by
  unfold validB at h
  simp only [Bool.and_eq_true, List.all_eq_true] at h
  obtain ⟨⟨⟨h1, h2⟩, h3⟩, h4⟩ := h
  refine ⟨fun s hs => ?_, fun x hx => ?_, fun s hs => ?_⟩
  · have := h4 s hs; simp only [siteB, Bool.and_eq_true, decide_eq_true_eq] at this; exact this.1.2
  · have := h3 x hx; simp only [houseB, Bool.and_eq_true, decide_eq_true_eq] at this; exact ⟨this.1.1, this.1.2, this.2⟩
  · have := h4 s hs; simp only [siteB, Bool.and_eq_true, decide_eq_true_eq] at this
    exact ⟨this.1.1.1.1, this.1.1.1.2, this.1.1.2.1, this.1.1.2.2, this.2⟩
theorem spanB_iff (s : S58) : spanB s = true ↔ 0 ≤ s.f0 ∧ s.f0 ≤ s.f1 ∧ s.f1 ≤ 1000000 := by
  simp only [spanB, Bool.and_eq_true, decide_eq_true_eq, and_assoc]
theorem rd_needsW {H : List S60} {h : Nat} (hh : h < H.length) : rd (needsW H) (h : Int) = (rd_T60 H (h : Int)).f0.f1 := by
  rw [rd_at (by simpa [needsW] using hh), rd60_at hh]; simp [needsW]
theorem rd_givesW {H : List S60} {S : List S64} (hv : validB H S = true) {i h : Nat} (hi : i < S.length) (hh : h < H.length) : rd (rd_L8 (givesW S) (i : Int)) (h : Int) = cold S h i := by
  have hr := (valid_more hv).1 _ (List.getElem_mem hi)
  have e : rd_L8 (givesW S) (i : Int) = S[i].f2.map fun x => x.f0 := by simp [rd_L8, givesW, List.getD_eq_getElem?_getD, List.getElem?_eq_getElem hi]
  rw [e]
  unfold cold
  have h2 : h < S[i].f2.length := by omega
  rw [rd_at (by simpa using h2), rd64_at hi, rd58_at h2]; simp
theorem worst_ok {H : List S60} {S : List S64} (hv : validB H S = true) : TruthOk H S (needsW H) (givesW S) := by
  obtain ⟨hr, hs, hc⟩ := valid_more hv
  obtain ⟨v1, v2, v3, v4, v5, v6⟩ := valid_facts hv
  refine ⟨by simp [needsW], by simp [givesW], fun i hi => ?_, fun h hh => ?_, fun i h hi hh => ?_⟩
  · have e : rd_L8 (givesW S) (i : Int) = S[i].f2.map fun x => x.f0 := by simp [rd_L8, givesW, List.getD_eq_getElem?_getD, List.getElem?_eq_getElem hi]
    rw [e, List.length_map]; exact hr _ (List.getElem_mem hi)
  · rw [rd_needsW hh, rd60_at hh]
    have := (spanB_iff _).1 (hs _ (List.getElem_mem hh)).1
    omega
  · rw [rd_givesW hv hi hh]; exact v6 h i hh hi
def levelW (H : List S60) (S : List S64) (l : List Int) (h : Nat) : Bool := decide ((rd_T60 H (h : Int)).f0.f1 ≤ (l.map fun x => cold S h x.toNat).sum)
theorem Level_ev {H : List S60} {S : List S64} (hv : validB H S = true) (l : List Int) (hl : l.length ≤ 1000) (hb : ∀ x ∈ l, 0 ≤ x ∧ x < S.length) (h : Nat) (hh : h < H.length) : Ev (fun k => talikref03_Level.f k H S l h) (levelW H S l h) := by
  obtain ⟨v1, v2, v3, v4, v5, v6⟩ := valid_facts hv
  unfold talikref03_Level.f
  refine Ev.bind (Worst_ev H S (by omega) (by omega) (valid_more hv).1) ?_
  refine Ev.bind (Over_ev H S (by omega) (by omega) (needsW H) (givesW S) (worst_ok hv) l hl hb) ?_
  refine ⟨0, fun k _ => ?_⟩
  rw [if_pos (by omega), if_pos (by simp; omega), rd_at (by simpa using hh)]
  simp only [List.getElem_map, List.getElem_range]
  unfold overW levelW
  rw [rd_needsW hh]
  have e : (l.map fun x => rd (rd_L8 (givesW S) x) (h : Int)) = l.map fun x => cold S h x.toNat := by
    apply List.map_congr_left
    intro x hx
    have hx' := hb x hx
    obtain ⟨n, rfl⟩ := Int.eq_ofNat_of_zero_le hx'.1
    exact rd_givesW hv (by omega) hh
  rw [e]
  congr 1
  rw [decide_eq_decide]; omega
end Go.Proofs.Ytmkdllaagaimlaa.C
end
section
namespace Go.Proofs.Ytmkdllaagaimlaa.C
open Go.RowKit Go.Proofs.YtmkdllaagaimlaaW.PrintWords Go.Proofs.YtmkdllaagaimlaaW.PrintLast Go.Proofs.YtmkdllaagaimlaaW.PrintMore
set_option linter.unusedVariables false
set_option linter.unusedSimpArgs false
theorem sum_perm {l m : List Int} (h : l.Perm m) : l.sum = m.sum := by
  induction h with
  | nil => rfl
  | cons a _ ih => simp only [List.sum_cons, ih]
  | swap a b l => simp only [List.sum_cons]; omega
  | trans _ _ i1 i2 => exact i1.trans i2
theorem ext_lt : ∀ (l m : List Int), l.Pairwise (· < ·) → m.Pairwise (· < ·) → (∀ x, x ∈ l ↔ x ∈ m) → l = m
  | [], [], _, _, _ => rfl
  | [], b :: m, _, _, h => absurd ((h b).2 (by simp)) (by simp)
  | a :: l, [], _, _, h => absurd ((h a).1 (by simp)) (by simp)
  | a :: l, b :: m, hl, hm, h => by
    have hl' := List.pairwise_cons.1 hl
    have hm' := List.pairwise_cons.1 hm
    have hab : a = b := by
      have h1 := (h a).1 (by simp)
      have h2 := (h b).2 (by simp)
      rcases List.mem_cons.1 h1 with h1 | h1
      · exact h1
      · rcases List.mem_cons.1 h2 with h2 | h2
        · exact h2.symm
        · have := hm'.1 a h1; have := hl'.1 b h2; omega
    subst hab
    rw [ext_lt l m hl'.2 hm'.2]
    intro x
    constructor
    · intro hx
      have := (h x).1 (by simp [hx])
      rcases List.mem_cons.1 this with e | e
      · have := hl'.1 x hx; omega
      · exact e
    · intro hx
      have := (h x).2 (by simp [hx])
      rcases List.mem_cons.1 this with e | e
      · have := hm'.1 x hx; omega
      · exact e
theorem memI_lt (C : Nat) : (memI C).Pairwise (· < ·) := by
  unfold memI memN
  rw [List.pairwise_map]
  refine List.Pairwise.imp (fun h => ?_) ((List.pairwise_lt_range (n := 10)).filter _)
  exact Int.ofNat_lt.2 h
theorem mem_memI (C : Nat) (x : Int) : x ∈ memI C ↔ 0 ≤ x ∧ x < 10 ∧ C.testBit x.toNat = true := by
  unfold memI memN
  simp only [List.mem_map, List.mem_filter, List.mem_range]
  constructor
  · rintro ⟨n, ⟨h1, h2⟩, rfl⟩
    exact ⟨Int.natCast_nonneg n, Int.ofNat_lt.2 h1, by simpa using h2⟩
  · rintro ⟨h1, h2, h3⟩
    exact ⟨x.toNat, ⟨by omega, h3⟩, Int.toNat_of_nonneg h1⟩
theorem incr_sorted {m : Int} : ∀ {l : List Int} {p : Int}, incr m p l = true → l.Pairwise (· < ·)
  | [], _, _ => List.Pairwise.nil
  | x :: r, p, h => by
    simp only [incr, Bool.and_eq_true, decide_eq_true_eq] at h
    exact List.pairwise_cons.2 ⟨fun y hy => (incr_lt h.2 y hy).1, incr_sorted h.2⟩
theorem levelB_zero (H : List S60) (S : List S64) (h C : Nat) : levelB H S h 0 C = levelW H S (memI C) h := by
  unfold levelB levelW colds
  rw [List.drop_zero, sum_perm (isorted_perm _)]
end Go.Proofs.Ytmkdllaagaimlaa.C
end
section
namespace Go.Proofs.Ytmkdllaagaimlaa.C
open Go.RowKit Go.Proofs.YtmkdllaagaimlaaW.PrintWords Go.Proofs.YtmkdllaagaimlaaW.PrintLast Go.Proofs.YtmkdllaagaimlaaW.PrintMore
set_option linter.unusedVariables false
set_option linter.unusedSimpArgs false
theorem known_ev' : Ev (fun k => (taliklaw03_known.f k).bind fun t => some t) true := ⟨0, fun _ _ => rfl⟩
theorem same_l0 (a b : List Int) (ha : a.length ≤ 9223372036854775807) (hab : a.length = b.length) : ∀ d i : Nat, i + d = a.length → Ev (fun k => talikref03_Same.l0 k a b i) (decide (a.drop i = b.drop i)) := by
  intro d
  induction d with
  | zero =>
    intro i hi
    refine Ev.step (f := fun _ => some true) (fun k => ?_) ?_
    · simp only [talikref03_Same.l0]; rw [if_neg (by omega)]
    · rw [List.drop_eq_nil_of_le (by omega), List.drop_eq_nil_of_le (by omega)]; exact Ev.now _
  | succ d ih =>
    intro i hi
    have hlt : i < a.length := by omega
    obtain ⟨x, hx, hd⟩ := drop_at hlt
    obtain ⟨y, hy, he⟩ := drop_at (l := b) (i := i) (by omega)
    rw [hd, he]
    by_cases hxy : x = y
    · refine Ev.step (f := fun k => talikref03_Same.l0 k a b ((i + 1 : Nat) : Int)) (fun k => ?_) ?_
      · simp only [talikref03_Same.l0]; rw [if_pos (by omega), if_pos (by omega), if_pos (by omega), hx, hy, if_pos hxy, w1 (by omega)]
      · have : decide (x :: a.drop (i + 1) = y :: b.drop (i + 1)) = decide (a.drop (i + 1) = b.drop (i + 1)) := by
          rw [decide_eq_decide]; constructor
          · intro h; exact (List.cons.inj h).2
          · intro h; rw [h, hxy]
        rw [this]; exact ih (i + 1) (by omega)
    · refine Ev.step (f := fun _ => some false) (fun k => ?_) ?_
      · simp only [talikref03_Same.l0]; rw [if_pos (by omega), if_pos (by omega), if_pos (by omega), hx, hy, if_neg hxy]
      · have : decide (x :: a.drop (i + 1) = y :: b.drop (i + 1)) = false := by
          rw [decide_eq_false_iff_not]; intro h; exact hxy (List.cons.inj h).1
        rw [this]; exact Ev.now _
theorem Same_ev (a b : List Int) (ha : a.length ≤ 9223372036854775807) : Ev (fun k => talikref03_Same.f k a b) (decide (a = b)) := by
  unfold talikref03_Same.f
  by_cases h : a.length = b.length
  · have := same_l0 a b ha h a.length 0 (by omega)
    simp only [show ((a.length : Int) = (b.length : Int)) by omega, if_true]
    simpa using this
  · refine ⟨0, fun k _ => ?_⟩
    dsimp only
    rw [if_neg (by omega)]
    congr 1
    symm
    rw [decide_eq_false_iff_not]
    rintro rfl
    exact h rfl
def orderW (b o : List Int) : Bool := (List.range o.length).all fun i => decide (rd o (i : Int) ∈ b) && !decide (rd o (i : Int) ∈ o.take i)
theorem order_l0 (b o : List Int) (hb : b.length ≤ 1000) (ho : o.length ≤ 1000) : ∀ d i : Nat, i + d = o.length → Ev (fun k => talikref03_Order.l0 k b o i) ((List.range' i d).all fun i => decide (rd o (i : Int) ∈ b) && !decide (rd o (i : Int) ∈ o.take i)) := by
  intro d
  induction d with
  | zero =>
    intro i hi
    refine Ev.step (f := fun _ => some true) (fun k => ?_) (Ev.now _)
    simp only [talikref03_Order.l0]; rw [if_neg (by omega)]
  | succ d ih =>
    intro i hi
    have hlt : i < o.length := by omega
    obtain ⟨x, hx⟩ : ∃ x, rd o (i : Int) = x := ⟨_, rfl⟩
    rw [List.range'_succ, List.all_cons, hx]
    refine Ev.step (f := fun k => (talikref03_Has.f k b x).bind fun t => if t = true then (talikref03_Has.f k (o.take i) x).bind fun t => if t = true then some false else talikref03_Order.l0 k b o ((i + 1 : Nat) : Int) else some false) (fun k => ?_) ?_
    · simp only [talikref03_Order.l0]; rw [if_pos (by omega), if_pos (by omega), hx, w1 (by omega)]
      simp only [show (i : Int) ≤ (o.length : Int) by omega, if_true, Int.toNat_natCast]
    · refine Ev.bind (Has_ev b x (by omega)) ?_
      by_cases hm : x ∈ b
      · simp only [hm, decide_true, if_true, Bool.true_and]
        refine Ev.bind (Has_ev (o.take i) x (by rw [List.length_take]; omega)) ?_
        by_cases ht : x ∈ o.take i
        · simp only [ht, decide_true, if_true, Bool.not_true, Bool.false_and]; exact Ev.now _
        · simp only [ht, decide_false, Bool.false_eq_true, if_false, Bool.not_false, Bool.true_and]; exact ih (i + 1) (by omega)
      · simp only [hm, decide_false, Bool.false_eq_true, if_false, Bool.false_and]; exact Ev.now _
theorem Order_ev (b o : List Int) (hb : b.length ≤ 1000) (ho : o.length ≤ 1000) : Ev (fun k => talikref03_Order.f k b o) (orderW b o) := by
  have := order_l0 b o hb ho o.length 0 (by omega)
  unfold orderW
  rw [List.range_eq_range']
  simpa [talikref03_Order.f] using this
def repairedW (H : List S60) (S : List S64) (b o : List Int) : Int := if 6 < o.length then 3 else if askedB H S b = true ∧ orderW b o = true then 0 else 2
theorem repaired_ev (H : List S60) (S : List S64) (b o : List Int) (hH : H.length ≤ 9223372036854775807) (hS : S.length ≤ 9223372036854775807) (hG : ∀ s ∈ S, s.f2.length ≤ 9223372036854775807) (hb : b.length ≤ 1000) (ho : o.length ≤ 1000) : Ev (fun k => taliklaw03_repaired.f k H S b o) (repairedW H S b o) := by
  unfold taliklaw03_repaired.f repairedW
  by_cases h6 : 6 < o.length
  · rw [if_pos h6]; refine ⟨0, fun k _ => ?_⟩; dsimp only; rw [if_pos (by omega)]
  · rw [if_neg h6]
    refine Ev.congr (f := fun k => (taliklaw03_asked.f k H S b).bind fun t => if t = true then (talikref03_Order.f k b o).bind fun t => if t = true then some 0 else some 2 else some 2) (fun k => by rw [if_neg (by omega)]) ?_
    refine Ev.bind (asked_ev H S b hH hS hG (by omega)) ?_
    cases ha : askedB H S b with
    | false => exact ⟨0, fun _ _ => by simp⟩
    | true =>
      simp only [if_true, true_and]
      refine Ev.bind (Order_ev b o hb ho) ?_
      cases orderW b o <;> exact ⟨0, fun _ _ => by simp⟩
def agStep (H : List S60) (S : List S64) (b o : List Int) (h : Nat) (st : Int × Int) (i : Nat) : Int × Int :=
  let w := if 0 < i then st.2 + (rd_T64 S (rd o ((i : Int) - 1))).f1 else st.2
  (if st.1 < 0 ∧ levelW H S (wo b (o.drop i)) h = true then w else st.1, w)
def agSt (H : List S60) (S : List S64) (b o : List Int) (h n : Nat) : Int × Int := (List.range n).foldl (agStep H S b o h) (-1, 0)
theorem agSt_succ (H : List S60) (S : List S64) (b o : List Int) (h n : Nat) : agSt H S b o h (n + 1) = agStep H S b o h (agSt H S b o h n) n := by
  unfold agSt; rw [List.range_succ, List.foldl_append]; rfl
theorem agSt_bd {H : List S60} {S : List S64} (hv : validB H S = true) (b o : List Int) (ho : ∀ x ∈ o, 0 ≤ x ∧ x < S.length) (h : Nat) : ∀ n, n ≤ o.length + 1 → 0 ≤ (agSt H S b o h n).2 ∧ (agSt H S b o h n).2 ≤ 100 * n ∧ -1 ≤ (agSt H S b o h n).1 := by
  intro n
  induction n with
  | zero => intro _; simp [agSt]
  | succ n ih =>
    intro hn
    obtain ⟨i1, i2, i3⟩ := ih (by omega)
    rw [agSt_succ]
    have hw : 0 ≤ (if 0 < n then (agSt H S b o h n).2 + (rd_T64 S (rd o ((n : Int) - 1))).f1 else (agSt H S b o h n).2) ∧ (if 0 < n then (agSt H S b o h n).2 + (rd_T64 S (rd o ((n : Int) - 1))).f1 else (agSt H S b o h n).2) ≤ 100 * ((n + 1 : Nat) : Int) := by
      by_cases h0 : 0 < n
      · rw [if_pos h0]
        have hl : n - 1 < o.length := by omega
        have e : rd o ((n : Int) - 1) = o[n - 1] := by rw [show (n : Int) - 1 = ((n - 1 : Nat) : Int) by omega, rd_at hl]
        have hx := ho _ (List.getElem_mem hl)
        obtain ⟨m, hm⟩ := Int.eq_ofNat_of_zero_le hx.1
        rw [e, hm, rd64_at (by omega)]
        have := (valid_more hv).2.2 (S[m]'(by omega)) (List.getElem_mem _)
        omega
      · rw [if_neg h0]; omega
    refine ⟨hw.1, hw.2, ?_⟩
    unfold agStep
    dsimp only
    split
    · omega
    · exact i3
theorem again_l1 {H : List S60} {S : List S64} (hv : validB H S = true) (b o : List Int) (hb : b.length ≤ 1000) (hbS : ∀ x ∈ b, 0 ≤ x ∧ x < S.length) (ho : o.length ≤ 1000) (hoS : ∀ x ∈ o, 0 ≤ x ∧ x < S.length) (h : Nat) (hh : h < H.length) (out : List Int) (hout : out.length ≤ 1000) (r : List Int)
    (hk : Ev (fun k => talikref03_Again.l0 k b o (out ++ [(agSt H S b o h (o.length + 1)).1]) (wrap64 ((h : Int) + 1)) H S) r) :
    ∀ d i : Nat, i + d = o.length + 1 → Ev (fun k => talikref03_Again.l1 k b o out h (agSt H S b o h i).1 (agSt H S b o h i).2 i H S) r := by
  intro d
  induction d with
  | zero =>
    intro i hi
    obtain rfl : i = o.length + 1 := by omega
    refine Ev.step (f := fun k => talikref03_Again.l0 k b o (out ++ [(agSt H S b o h (o.length + 1)).1]) (wrap64 ((h : Int) + 1)) H S) (fun k => ?_) hk
    simp only [talikref03_Again.l1]; rw [if_neg (by omega), if_pos (by omega)]
  | succ d ih =>
    intro i hi
    have hnx := ih (i + 1) (by omega)
    rw [agSt_succ] at hnx
    obtain ⟨⟨a, w⟩, hst⟩ : ∃ st, agSt H S b o h i = st := ⟨_, rfl⟩
    have hbd := agSt_bd hv b o hoS h i (by omega)
    rw [hst] at hnx hbd ⊢
    simp only at hbd
    obtain ⟨W, hW⟩ : ∃ W, (if 0 < i then w + (rd_T64 S (rd o ((i : Int) - 1))).f1 else w) = W := ⟨_, rfl⟩
    have hstep : agStep H S b o h (a, w) i = (if a < 0 ∧ levelW H S (wo b (o.drop i)) h = true then W else a, W) := by unfold agStep; simp only [hW]
    rw [hstep] at hnx
    have hj : Ev (fun k => talikref03_Again.j2 k b o out h a W i H S) r := by
      by_cases ha : a < 0
      · have hwo : ∀ x ∈ wo b (o.drop i), 0 ≤ x ∧ x < (S.length : Int) := fun x hx => hbS x (List.mem_filter.1 hx).1
        have hwl : (wo b (o.drop i)).length ≤ 1000 := Nat.le_trans (List.length_filter_le _ _) hb
        refine Ev.step (f := fun k => (talikref03_Without.f k b (o.drop i)).bind fun t => (talikref03_Level.f k H S t h).bind fun t2 => if t2 = true then talikref03_Again.l1 k b o out h W W ((i + 1 : Nat) : Int) H S else talikref03_Again.l1 k b o out h a W ((i + 1 : Nat) : Int) H S) (fun k => ?_) ?_
        · simp only [talikref03_Again.j2]; rw [if_pos ha, if_pos (by omega), if_pos (by omega), w1 (by omega)]; simp only [Int.toNat_natCast]
        · refine Ev.bind (Without_ev b (o.drop i) hb (by rw [List.length_drop]; omega)) ?_
          refine Ev.bind (Level_ev hv _ hwl hwo h hh) ?_
          cases hl : levelW H S (wo b (o.drop i)) h with
          | true => rw [hl] at hnx; simpa [ha] using hnx
          | false => rw [hl] at hnx; simpa [ha] using hnx
      · refine Ev.step (f := fun k => talikref03_Again.l1 k b o out h a W ((i + 1 : Nat) : Int) H S) (fun k => ?_) ?_
        · simp only [talikref03_Again.j2]; rw [if_neg ha, w1 (by omega)]
        · simpa [ha] using hnx
    refine Ev.step (f := fun k => talikref03_Again.j2 k b o out h a W i H S) (fun k => ?_) hj
    simp only [talikref03_Again.l1]
    rw [if_pos (by omega)]
    by_cases h0 : 0 < i
    · have hl : i - 1 < o.length := by omega
      have e : rd o ((i : Int) - 1) = o[i - 1] := by rw [show (i : Int) - 1 = ((i - 1 : Nat) : Int) by omega, rd_at hl]
      have hx := hoS _ (List.getElem_mem hl)
      obtain ⟨m, hm⟩ := Int.eq_ofNat_of_zero_le hx.1
      have hw64 := (valid_more hv).2.2 (S[m]'(by omega)) (List.getElem_mem _)
      rw [if_pos h0, e, hm, rd64_at (by omega)] at hW
      rw [if_pos (by omega), wrap64_of ((i : Int) - 1) (by omega) (by omega), if_pos (by omega), if_pos (by omega), e, hm, if_pos (by omega), if_pos (by omega), rd64_at (by omega), wrap64_of _ (by omega) (by omega), hW]
    · rw [if_neg h0] at hW
      rw [if_neg (by omega), hW]
def againW (H : List S60) (S : List S64) (b o : List Int) : List Int := (List.range H.length).map fun h => (agSt H S b o h (o.length + 1)).1
theorem again_l0 {H : List S60} {S : List S64} (hv : validB H S = true) (b o : List Int) (hb : b.length ≤ 1000) (hbS : ∀ x ∈ b, 0 ≤ x ∧ x < S.length) (ho : o.length ≤ 1000) (hoS : ∀ x ∈ o, 0 ≤ x ∧ x < S.length) : ∀ d h : Nat, h + d = H.length → Ev (fun k => talikref03_Again.l0 k b o ((List.range h).map fun h => (agSt H S b o h (o.length + 1)).1) h H S) (againW H S b o) := by
  intro d
  obtain ⟨v1, v2, v3, v4, v5, v6⟩ := valid_facts hv
  induction d with
  | zero =>
    intro h hh
    obtain rfl : h = H.length := by omega
    refine Ev.step (f := fun _ => some (againW H S b o)) (fun k => ?_) (Ev.now _)
    simp only [talikref03_Again.l0]; rw [if_neg (by omega)]; rfl
  | succ d ih =>
    intro h hh
    have hlt : h < H.length := by omega
    refine Ev.step (f := fun k => talikref03_Again.l1 k b o ((List.range h).map fun h => (agSt H S b o h (o.length + 1)).1) h (agSt H S b o h 0).1 (agSt H S b o h 0).2 ((0 : Nat) : Int) H S) (fun k => ?_) ?_
    · simp only [talikref03_Again.l0]; rw [if_pos (by omega)]; rfl
    · refine again_l1 hv b o hb hbS ho hoS h hlt _ (by simp; omega) _ ?_ (o.length + 1) 0 (by omega)
      have := ih (h + 1) (by omega)
      rw [List.range_succ, List.map_append] at this
      rw [w1 (by omega)]
      exact this
theorem Again_ev {H : List S60} {S : List S64} (hv : validB H S = true) (b o : List Int) (hb : b.length ≤ 1000) (hbS : ∀ x ∈ b, 0 ≤ x ∧ x < S.length) (ho : o.length ≤ 1000) (hoS : ∀ x ∈ o, 0 ≤ x ∧ x < S.length) : Ev (fun k => talikref03_Again.f k H S b o) (againW H S b o) := by
  have := again_l0 hv b o hb hbS ho hoS H.length 0 (by omega)
  simpa [talikref03_Again.f] using this
theorem ord_iff {b o : List Int} {m : Nat} (hb : ∀ x ∈ b, 0 ≤ x ∧ x < (m : Int)) : ordB (maskN b) m o = orderW b o := by
  unfold ordB orderW
  rw [Bool.eq_iff_iff]
  simp only [List.all_eq_true, List.mem_range]
  have key : ∀ i, okAt (maskN b) m o i = (decide (rd o (i : Int) ∈ b) && !decide (rd o (i : Int) ∈ o.take i)) := by
    intro i
    unfold okAt
    obtain ⟨x, hx⟩ : ∃ x, rd o (i : Int) = x := ⟨_, rfl⟩
    rw [hx]
    rw [Bool.eq_iff_iff]
    simp only [Bool.and_eq_true, decide_eq_true_eq, Bool.not_eq_true', decide_eq_false_iff_not]
    constructor
    · rintro ⟨⟨h1, h2⟩, h3, h4⟩
      have := (maskN_bit x.toNat b fun y hy => (hb y hy).1).1 h3
      rw [Int.toNat_of_nonneg h1] at this
      exact ⟨this, h4⟩
    · rintro ⟨h1, h2⟩
      have hb' := hb x h1
      refine ⟨hb', (maskN_bit x.toNat b fun y hy => (hb y hy).1).2 (by rwa [Int.toNat_of_nonneg hb'.1]), h2⟩
  constructor <;> intro h i hi <;> have := h i hi
  · rwa [key] at this
  · rwa [key]
theorem orderW_facts {b o : List Int} (h : orderW b o = true) : (∀ x ∈ o, x ∈ b) ∧ o.Nodup := by
  unfold orderW at h
  simp only [List.all_eq_true, List.mem_range, Bool.and_eq_true, decide_eq_true_eq, Bool.not_eq_true', decide_eq_false_iff_not] at h
  refine ⟨fun x hx => ?_, ?_⟩
  · obtain ⟨i, hi, rfl⟩ := List.mem_iff_getElem.1 hx
    have := (h i hi).1
    rwa [rd_at hi] at this
  · rw [List.nodup_iff_pairwise_ne, List.pairwise_iff_getElem]
    intro i j hi hj hij e
    have := (h j hj).2
    rw [rd_at hj, ← e] at this
    apply this
    rw [List.mem_take_iff_getElem]
    exact ⟨i, by omega, rfl⟩
theorem clr_fold2 {C : Nat} (hC : C < 2 ^ 64) : ∀ (o : List Int), (∀ x ∈ o, 0 ≤ x) → ∀ j : Nat, (o.foldl (fun W x => clr W x.toNat) C).testBit j = (C.testBit j && !decide ((j : Int) ∈ o)) ∧ o.foldl (fun W x => clr W x.toNat) C < 2 ^ 64 := by
  intro o
  induction o generalizing C with
  | nil => intro _ j; simp [hC]
  | cons x r ih =>
    intro h j
    have hx := h x (by simp)
    obtain ⟨i1, i2⟩ := ih (C := clr C x.toNat) (clr_lt _ hC (by decide)) (fun y hy => h y (by simp [hy])) j
    rw [List.foldl_cons]
    refine ⟨?_, i2⟩
    rw [i1, clr_bit _ _ hC]
    have e : (j ≠ x.toNat) ↔ ¬ (j : Int) = x := by omega
    simp only [List.mem_cons, e]
    by_cases h1 : (j : Int) = x <;> by_cases h2 : (j : Int) ∈ r <;> simp [h1, h2]
def prS (H : List S60) (S : List S64) (C : Nat) (o : List Int) (i : Nat) : Nat × Int × List Int := (o.take i).foldl (stepA H S) (startA H S C o)
theorem prS_succ (H : List S60) (S : List S64) (C : Nat) (o : List Int) {i : Nat} (hi : i < o.length) : prS H S C o (i + 1) = stepA H S (prS H S C o i) o[i] := by
  unfold prS; rw [List.take_succ_eq_append_getElem hi, List.foldl_append]; rfl
theorem mem_drop_nodup {o : List Int} (h : o.Nodup) {i : Nat} (hi : i < o.length) : o[i] ∉ o.drop (i + 1) := by
  rw [← List.take_append_drop i o, List.drop_eq_getElem_cons hi] at h
  have := (List.nodup_append.1 h).2.1
  exact (List.nodup_cons.1 this).1
theorem look_rd {H : List S60} {S : List S64} {W : Nat} {week : Int} {out : List Int} {h : Nat} (hh : h < out.length) : rd (lookL H S W week out) (h : Int) = if rd out (h : Int) < 0 ∧ levelB H S h 0 W = true then week else rd out (h : Int) := by
  rw [rd_at (by rw [lookL_len]; exact hh)]
  simp [lookL]
theorem prS_inv {H : List S60} {S : List S64} (hv : validB H S = true) {b o : List Int} (hb : b.Pairwise (· < ·)) (hbS : ∀ x ∈ b, 0 ≤ x ∧ x < (S.length : Int)) (ho : ∀ x ∈ o, x ∈ b) (hn : o.Nodup) : ∀ i, i ≤ o.length →
    (∀ j : Nat, (prS H S (maskN b) o i).1.testBit j = ((maskN b).testBit j && !decide ((j : Int) ∈ o.drop i))) ∧ (prS H S (maskN b) o i).2.2.length = H.length ∧ (∀ h, h < H.length → rd (prS H S (maskN b) o i).2.2 (h : Int) = (agSt H S b o h (i + 1)).1) ∧ (∀ h, (agSt H S b o h (i + 1)).2 = (prS H S (maskN b) o i).2.1) := by
  obtain ⟨v1, v2, v3, v4, v5, v6⟩ := valid_facts hv
  have hb10 : ∀ x ∈ b, 0 ≤ x ∧ x < 10 := fun x hx => by have := hbS x hx; omega
  have hlev : ∀ (W i : Nat), (∀ j : Nat, W.testBit j = ((maskN b).testBit j && !decide ((j : Int) ∈ o.drop i))) → ∀ h, levelB H S h 0 W = levelW H S (wo b (o.drop i)) h := by
    intro W i hW h
    rw [levelB_zero]
    congr 1
    refine ext_lt _ _ (memI_lt _) (hb.sublist (List.filter_sublist ..)) fun x => ?_
    rw [mem_memI]
    simp only [wo, List.mem_filter, Bool.not_eq_true', decide_eq_false_iff_not]
    constructor
    · rintro ⟨h1, h2, h3⟩
      rw [hW, Bool.and_eq_true, Bool.not_eq_true', decide_eq_false_iff_not, Int.toNat_of_nonneg h1] at h3
      have := (maskN_bit x.toNat b fun y hy => (hb10 y hy).1).1 h3.1
      rw [Int.toNat_of_nonneg h1] at this
      exact ⟨this, h3.2⟩
    · rintro ⟨h1, h2⟩
      have hx := hb10 x h1
      refine ⟨hx.1, hx.2, ?_⟩
      rw [hW, Bool.and_eq_true, Bool.not_eq_true', decide_eq_false_iff_not, Int.toNat_of_nonneg hx.1]
      exact ⟨(maskN_bit x.toNat b fun y hy => (hb10 y hy).1).2 (by rwa [Int.toNat_of_nonneg hx.1]), h2⟩
  have hM : maskN b < 2 ^ 64 := Nat.lt_of_lt_of_le (maskN_lt (n := 10) fun x hx => hb10 x hx) (by decide)
  intro i
  induction i with
  | zero =>
    intro _
    have hW : ∀ j : Nat, (prS H S (maskN b) o 0).1.testBit j = ((maskN b).testBit j && !decide ((j : Int) ∈ o.drop 0)) := fun j => (clr_fold2 hM o (fun x hx => (hbS x (ho x hx)).1) j).1
    refine ⟨hW, ?_, fun h hh => ?_, fun h => ?_⟩
    · show (lookL H S _ 0 (List.replicate H.length (-1))).length = _
      rw [lookL_len]; simp
    · show rd (lookL H S _ 0 (List.replicate H.length (-1))) (h : Int) = _
      rw [look_rd (by simpa using hh), agSt_succ]
      have e : rd (List.replicate H.length (-1)) (h : Int) = -1 := by rw [rd_at (by simpa using hh)]; simp
      rw [e]
      have hl := hlev (prS H S (maskN b) o 0).1 0 hW h
      have e2 : (o.foldl (fun W x => clr W x.toNat) (maskN b)) = (prS H S (maskN b) o 0).1 := rfl
      rw [e2, hl]
      unfold agStep agSt
      simp
    · rw [agSt_succ]; rfl
  | succ i ih =>
    intro hi
    have hlt : i < o.length := by omega
    obtain ⟨i1, i2, i3, i4⟩ := ih (by omega)
    have hxm := ho _ (List.getElem_mem hlt)
    have hxb := hbS _ hxm
    obtain ⟨n, hn1⟩ := Int.eq_ofNat_of_zero_le hxb.1
    rw [prS_succ _ _ _ _ hlt]
    have hW : ∀ j : Nat, (stepA H S (prS H S (maskN b) o i) o[i]).1.testBit j = ((maskN b).testBit j && !decide ((j : Int) ∈ o.drop (i + 1))) := by
      intro j
      show ((prS H S (maskN b) o i).1 ||| 2 ^ (o[i]).toNat).testBit j = _
      have hnd := mem_drop_nodup hn hlt
      rw [Nat.testBit_or, i1, Nat.testBit_two_pow]
      by_cases hj : (j : Int) = o[i]
      · have e1 : (o[i]).toNat = j := by omega
        have e2 : (maskN b).testBit j = true := (maskN_bit j b fun y hy => (hb10 y hy).1).2 (by rw [hj]; exact hxm)
        simp [e1, e2, hj, hnd]
      · have e1 : ¬ (o[i]).toNat = j := by omega
        have e3 : ((j : Int) ∈ o.drop i) ↔ ((j : Int) ∈ o.drop (i + 1)) := by
          rw [List.drop_eq_getElem_cons hlt, List.mem_cons]
          simp [hj]
        simp only [e1, decide_false, Bool.or_false, e3]
    have hwk : (stepA H S (prS H S (maskN b) o i) o[i]).2.1 = (prS H S (maskN b) o i).2.1 + (rd_T64 S o[i]).f1 := rfl
    have hro : rd o (((i + 1 : Nat) : Int) - 1) = o[i] := by rw [show ((i + 1 : Nat) : Int) - 1 = (i : Int) by omega, rd_at hlt]
    refine ⟨hW, ?_, fun h hh => ?_, fun h => ?_⟩
    · show (lookL H S _ _ (prS H S (maskN b) o i).2.2).length = _
      rw [lookL_len, i2]
    · show rd (lookL H S _ _ (prS H S (maskN b) o i).2.2) (h : Int) = _
      rw [look_rd (by omega), i3 h hh, agSt_succ H S b o h (i + 1)]
      have hl := hlev _ (i + 1) hW h
      have e2 : (prS H S (maskN b) o i).1 ||| 2 ^ (o[i]).toNat = (stepA H S (prS H S (maskN b) o i) o[i]).1 := rfl
      rw [e2, hl]
      unfold agStep
      simp only [Nat.succ_pos, if_true, hro, i4 h]
    · rw [agSt_succ H S b o h (i + 1)]
      unfold agStep
      simp only [Nat.succ_pos, if_true, hro, i4 h, hwk]
theorem again_eq {H : List S60} {S : List S64} (hv : validB H S = true) {b o : List Int} (hb : b.Pairwise (· < ·)) (hbS : ∀ x ∈ b, 0 ≤ x ∧ x < (S.length : Int)) (ho : ∀ x ∈ o, x ∈ b) (hn : o.Nodup) : againL H S (maskN b) o = againW H S b o := by
  obtain ⟨_, h2, h3, _⟩ := prS_inv hv hb hbS ho hn o.length (Nat.le_refl _)
  have e : againL H S (maskN b) o = (prS H S (maskN b) o o.length).2.2 := by unfold againL prS; rw [List.take_length]
  rw [e]
  apply List.ext_getElem
  · simp [againW, h2]
  · intro i h4 h5
    have := h3 i (by omega)
    rw [rd_at h4] at this
    rw [this]; simp [againW]
theorem CoolAgains_pure (H : List S60) (S : List S64) (b o : List Int) (hH : H.length ≤ 9223372036854775807) (hS : S.length ≤ 9223372036854775807) (hG : ∀ s ∈ S, s.f2.length ≤ 9223372036854775807) (hb : b.length ≤ 9223372036854775807) (ho : o.length ≤ 9223372036854775807) : Ev (fun k => taliklaw03_CoolAgains.f k H S b o) true := by
  have hj1 : Ev (fun k => taliklaw03_CoolAgains.j0 k b o true H S) true :=
    Ev.step (f := fun k => (taliklaw03_known.f k).bind fun t => some t) (fun k => by simp only [taliklaw03_CoolAgains.j0]; rw [if_pos trivial]) known_ev'
  unfold taliklaw03_CoolAgains.f
  refine Ev.bind (short_ev H S hS) ?_
  cases hsh : shortB H S with
  | false => simpa using hj1
  | true =>
    simp only [if_true]
    by_cases hb15 : 15 < b.length
    · refine Ev.congr (fun k => ?_) hj1; rw [if_pos (by omega)]
    · by_cases ho15 : 15 < o.length
      · refine Ev.congr (fun k => ?_) hj1; rw [if_neg (by omega), decide_eq_true (by omega)]
      · refine Ev.congr (f := fun k => taliklaw03_CoolAgains.j0 k b o false H S) (fun k => by rw [if_neg (by omega), decide_eq_false (by omega)]) ?_
        obtain ⟨⟨l, e⟩, hA⟩ : ∃ r, againV H S b o = r := ⟨_, rfl⟩
        refine Ev.step (f := fun k => (taliklaw03_repaired.f k H S b o).bind fun t493 => (if t493 = 0 then (if e = 0 then ((talikref03_Again.f k H S b o).bind fun t494 => ((talikref03_Same.f k l t494).bind fun t497 => (if t497 = true then ((taliklaw03_known.f k).bind fun t498 => (some t498)) else (some false)))) else (some false)) else (if e = t493 then (if (l.length : Int) = 0 then ((taliklaw03_known.f k).bind fun t499 => (some t499)) else (some false)) else (some false)))) (fun k => ?_) ?_
        · simp only [taliklaw03_CoolAgains.j0, cool_Again.f, hA]; rw [if_neg (by simp)]; rfl
        · refine Ev.bind (repaired_ev H S b o hH hS hG (by omega) (by omega)) ?_
          unfold againV at hA
          unfold repairedW
          by_cases h6 : 6 < o.length
          · rw [if_neg (by omega)] at hA
            cases hA
            rw [if_pos h6]
            simpa using known_ev'
          · rw [if_pos (by omega)] at hA
            rw [if_neg h6]
            cases ha : askedB H S b with
            | false =>
              have hg : givenO H S b true = none := by
                unfold givenO
                unfold askedB at ha
                rw [Bool.and_true, ha]; rfl
              rw [hg] at hA
              cases hA
              simpa using known_ev'
            | true =>
              have hg : givenO H S b true = some (maskN b) := by
                unfold givenO
                unfold askedB at ha
                rw [Bool.and_true, ha]; rfl
              unfold askedB at ha
              rw [Bool.and_eq_true] at ha
              obtain ⟨hv, hi⟩ := ha
              have hbS : ∀ x ∈ b, 0 ≤ x ∧ x < (S.length : Int) := fun x hx => (incr_lt hi x hx).2
              rw [hg] at hA
              simp only [ord_iff hbS] at hA
              cases hor : orderW b o with
              | false =>
                rw [hor] at hA
                simp only [Bool.false_eq_true, if_false] at hA
                cases hA
                simpa using known_ev'
              | true =>
                rw [hor] at hA
                simp only [if_true] at hA
                obtain ⟨h1, h2⟩ := orderW_facts hor
                rw [again_eq hv (incr_sorted hi) hbS h1 h2] at hA
                cases hA
                simp only [and_self, if_true]
                refine Ev.bind (Again_ev hv b o (by omega) hbS (by omega) (fun x hx => hbS x (h1 x hx))) ?_
                refine Ev.bind (Same_ev _ _ (by simp [againW]; omega)) ?_
                simpa using known_ev'
end Go.Proofs.Ytmkdllaagaimlaa.C
end
section
namespace Go.Proofs.Ytmkdllaagaimlaa.C
open Go.ChangeShapes Go.WideShapes Go.Deep Go.RowKit Go.Proofs.YtmkdllaagaimlaaW.PrintWords Go.Proofs.YtmkdllaagaimlaaW.PrintLast Go.Proofs.YtmkdllaagaimlaaW.PrintMore
set_option linter.unusedVariables false
set_option linter.unusedSimpArgs false
structure Opens (P : Program) (t : TypeId) {α : Type} (d : Kd α) (Q : α → Prop) : Prop where
  size : P.cellsOf t = d.sz
  reads : ∀ {H : Type} (enc : TypeId × Value → H) (w : World) (base : Nat) (spare : Nat → Bool) (held : Bool) (fuel : Nat) (cs : List Value) (x : DataW H × List MemPlace), DataW.trod enc P w base spare held fuel t cs = some x → ∃ y, d.K w y cs ∧ Q y
theorem opens_int {P : Program} {t : TypeId} {k : IntKind} (ht : P.underlying t = some (.int k)) (hc : P.cellsOf t = 1) : Opens P t (Kd.int k) (fun n => (Lit.int k n).wf = true) := ⟨hc, fun enc w base spare held fuel cs x h => by
  obtain ⟨n, rfl, _, hw⟩ := DataW.trod_int ht h
  exact ⟨n, rfl, hw⟩⟩
theorem opens_slice {P : Program} {t e : TypeId} {α : Type} {d : Kd α} {Q : α → Prop} (ht : P.underlying t = some (.slice e)) (hc : P.cellsOf t = 1) (he : Opens P e d Q) : Opens P t (Kd.slice e d) (fun xs => (∀ x ∈ xs, Q x) ∧ xs.length ≤ 9223372036854775807) := ⟨hc, fun enc w base spare held fuel cs x h => by
  rcases open_slice ht h with ⟨rfl, _⟩ | ⟨a, len, cap, m, n, D, Pl, rfl, hb, hl, hm, hmm, _, hel⟩
  · exact ⟨[], ⟨none, 0, rfl, Nat.le_refl _, rfl, by simp, fun h => by simp at h⟩, (fun x hx => by cases hx), by simp⟩
  · have hlm : len ≤ m := by rw [hmm]; split <;> omega
    have key : ∀ j : Nat, j ≤ len → ∃ xs : List α, xs.length = j ∧ (∀ x ∈ xs, Q x) ∧ ∀ i p, xs[i]? = some p → ∃ c, c.length = d.sz ∧ d.K w p c ∧ ∀ q u, c[q]? = some u → w.cell? (a.add (i * d.sz + q)) = some u := by
      intro j
      induction j with
      | zero => intro _; exact ⟨[], rfl, (fun x hx => by cases hx), fun i p h => by simp at h⟩
      | succ j ih =>
        intro hj
        obtain ⟨xs, h1, h2, h3⟩ := ih (by omega)
        obtain ⟨cs', hcs, htr⟩ := hel j (by omega)
        obtain ⟨_, hlen, hcell⟩ := World.cells?_some hcs
        obtain ⟨y, hy, hq⟩ := he.reads _ _ _ _ _ _ _ _ htr
        refine ⟨xs ++ [y], by simp [h1], fun x hx => ?_, fun i p hp => ?_⟩
        · rcases List.mem_append.1 hx with hx | hx
          · exact h2 x hx
          · rw [List.mem_singleton.1 hx]; exact hq
        · rcases Nat.lt_or_ge i xs.length with hi | hi
          · rw [List.getElem?_append_left hi] at hp
            exact h3 i p hp
          · rw [List.getElem?_append_right hi] at hp
            have hi2 : i - xs.length = 0 := by
              rcases Nat.eq_zero_or_pos (i - xs.length) with h | h
              · exact h
              · rw [List.getElem?_eq_none (by simp; omega)] at hp; cases hp
            rw [hi2] at hp
            simp only [List.getElem?_cons_zero, Option.some.injEq] at hp
            subst hp
            have hij : i = j := by omega
            subst hij
            refine ⟨cs', d.K_len hy, hy, fun q u hu => ?_⟩
            have hql : q < cs'.length := (List.getElem?_eq_some_iff.1 hu).1
            have h := hcell q (by omega)
            rw [hu] at h
            rw [← h, he.size]
            congr 1
            simp only [Addr.add]
            by_cases e1 : i * d.sz = 0 <;> by_cases e2 : q = 0 <;> simp [e1, e2, Nat.add_assoc]
    obtain ⟨xs, h1, h2, h3⟩ := key len (Nat.le_refl _)
    have hmx : cap ≤ 9223372036854775807 := by unfold maxLen at hm; exact hm
    subst h1
    exact ⟨xs, ⟨some a, cap, rfl, hl, rfl, by omega, fun _ => ⟨a, rfl, h3⟩⟩, h2, by omega⟩⟩
theorem opens_pair {P : Program} {t : TypeId} {f0 f1 : Field} {α β : Type} {d0 : Kd α} {d1 : Kd β} {Q0 : α → Prop} {Q1 : β → Prop} (ht : P.underlying t = some (.struct #[f0, f1])) (hc : P.cellsOf t = d0.sz + d1.sz) (h0 : Opens P f0.type d0 Q0) (h1 : Opens P f1.type d1 Q1) (o0 : f0.offset = 0) (o1 : f1.offset = d0.sz) :
    Opens P t (Kd.pair d0 d1) (fun x => Q0 x.1 ∧ Q1 x.2) := ⟨hc, fun enc w base spare held fuel cs x h => by
  obtain ⟨y0, y1, n, _, hl, t0, t1⟩ := trod_struct2 ht h
  obtain ⟨a, ha, qa⟩ := h0.reads _ _ _ _ _ _ _ _ t0
  obtain ⟨b, hb, qb⟩ := h1.reads _ _ _ _ _ _ _ _ t1
  rw [o0, h0.size, List.drop_zero] at ha
  rw [o1, h1.size, List.take_of_length_le (by simp; omega)] at hb
  exact ⟨(a, b), ⟨_, _, (List.take_append_drop _ _).symm, ha, hb⟩, qa, qb⟩⟩
theorem opens_triple {P : Program} {t : TypeId} {f0 f1 f2 : Field} {α β γ : Type} {d0 : Kd α} {d1 : Kd β} {d2 : Kd γ} {Q0 : α → Prop} {Q1 : β → Prop} {Q2 : γ → Prop} (ht : P.underlying t = some (.struct #[f0, f1, f2])) (hc : P.cellsOf t = d0.sz + (d1.sz + d2.sz)) (h0 : Opens P f0.type d0 Q0) (h1 : Opens P f1.type d1 Q1) (h2 : Opens P f2.type d2 Q2) (o0 : f0.offset = 0) (o1 : f1.offset = d0.sz) (o2 : f2.offset = d0.sz + d1.sz) :
    Opens P t (Kd.pair d0 (Kd.pair d1 d2)) (fun x => Q0 x.1 ∧ Q1 x.2.1 ∧ Q2 x.2.2) := ⟨hc, fun enc w base spare held fuel cs x h => by
  obtain ⟨y0, y1, y2, n, _, hl, t0, t1, t2⟩ := trod_struct3 ht h
  obtain ⟨a, ha, qa⟩ := h0.reads _ _ _ _ _ _ _ _ t0
  obtain ⟨b, hb, qb⟩ := h1.reads _ _ _ _ _ _ _ _ t1
  obtain ⟨c, hcc, qc⟩ := h2.reads _ _ _ _ _ _ _ _ t2
  rw [o0, h0.size, List.drop_zero] at ha
  rw [o1, h1.size] at hb
  rw [o2, h2.size, List.take_of_length_le (by simp; omega)] at hcc
  refine ⟨(a, b, c), ⟨_, _, (List.take_append_drop d0.sz cs).symm, ha, _, _, (List.take_append_drop d1.sz _).symm, hb, ?_⟩, qa, qb, qc⟩
  rwa [List.drop_drop]⟩
theorem opens_iso {P : Program} {t : TypeId} {α β : Type} {d : Kd α} {Q : α → Prop} (h : Opens P t d Q) (f : β → α) (g : α → β) (hfg : ∀ x, f (g x) = x) : Opens P t (Kd.iso d f) (fun y => Q (f y)) := ⟨h.size, fun enc w base spare held fuel cs x hx => by
  obtain ⟨y, hy, hq⟩ := h.reads enc w base spare held fuel cs x hx
  exact ⟨g y, by show d.K w (f (g y)) cs; rw [hfg]; exact hy, by rw [hfg]; exact hq⟩⟩
theorem Opens.imp {P : Program} {t : TypeId} {α : Type} {d : Kd α} {Q Q' : α → Prop} (h : Opens P t d Q) (hq : ∀ x, Q x → Q' x) : Opens P t d Q' := ⟨h.size, fun enc w base spare held fuel cs x hx => by
  obtain ⟨y, hy, hq'⟩ := h.reads enc w base spare held fuel cs x hx
  exact ⟨y, hy, hq y hq'⟩⟩
theorem op3 : Opens Try.prog 3 (Kd.int .i64) (fun n => (Lit.int .i64 n).wf = true) := opens_int (by kernel_rfl) (by kernel_rfl)
theorem op28 : Opens Try.prog 28 (Kd.slice 3 (Kd.int .i64)) (fun xs => (∀ x ∈ xs, (Lit.int .i64 x).wf = true) ∧ xs.length ≤ 9223372036854775807) := opens_slice (by kernel_rfl) (by kernel_rfl) op3
theorem op58 : Opens Try.prog 58 k58 (fun _ => True) := (opens_iso (opens_pair Try.underlying58 (by kernel_rfl) op3 op3 rfl rfl) (fun x : S58 => (x.f0, x.f1)) (fun x => ⟨x.1, x.2⟩) (fun _ => rfl)).imp fun _ _ => trivial
theorem op62 : Opens Try.prog 62 (Kd.slice 58 k58) (fun xs => xs.length ≤ 9223372036854775807) := (opens_slice (by kernel_rfl) (by kernel_rfl) op58).imp fun _ h => h.2
theorem op64 : Opens Try.prog 64 k64 (fun s => s.f2.length ≤ 9223372036854775807) := (opens_iso (opens_triple Try.underlying64 (by kernel_rfl) op3 op3 op62 rfl rfl rfl) (fun x : S64 => (x.f0, x.f1, x.f2)) (fun x => ⟨x.1, x.2.1, x.2.2⟩) (fun _ => rfl)).imp fun _ h => h.2.2
theorem op60 : Opens Try.prog 60 k60 (fun _ => True) := (opens_iso (opens_pair Try.underlying60 (by kernel_rfl) op58 op3 rfl rfl) (fun x : S60 => (x.f0, x.f1)) (fun x => ⟨x.1, x.2⟩) (fun _ => rfl)).imp fun _ _ => trivial
theorem op22 : Opens Try.prog 22 (Kd.slice 60 k60) (fun xs => xs.length ≤ 9223372036854775807) := (opens_slice Try.underlying22 (by kernel_rfl) op60).imp fun _ h => h.2
theorem op23 : Opens Try.prog 23 (Kd.slice 64 k64) (fun xs => (∀ s ∈ xs, s.f2.length ≤ 9223372036854775807) ∧ xs.length ≤ 9223372036854775807) := opens_slice Try.underlying23 (by kernel_rfl) op64
theorem op25 : Opens Try.prog 25 (Kd.pair (Kd.slice 60 k60) (Kd.slice 64 k64)) (fun x => x.1.length ≤ 9223372036854775807 ∧ (∀ s ∈ x.2, s.f2.length ≤ 9223372036854775807) ∧ x.2.length ≤ 9223372036854775807) := opens_pair Try.underlying25 (by kernel_rfl) op22 op23 rfl rfl
set_option maxRecDepth 100000 in
theorem open_town {H : Type} {enc : TypeId × Value → H} {W : World} {base b0 : Nat} {spare : Nat → Bool} {held : Bool} {r : Reach} {v : Value} {d : DataW H} {p : List MemPlace} (hv : Value.okWide Try.prog W r b0 25 v) (h : DataW.Trod enc Try.prog W base spare held 25 v d p) :
    ∃ (A0 : Option Addr) (c0 : Nat) (Hs : List S60) (A1 : Option Addr) (c1 : Nat) (Ss : List S64), v = .agg #[.slice A0 Hs.length c0, .slice A1 Ss.length c1] ∧ Kd.C k60 W A0 Hs.length Hs ∧ Hs.length ≤ c0 ∧ Kd.C k64 W A1 Ss.length Ss ∧ Ss.length ≤ c1 ∧ Hs.length ≤ 9223372036854775807 ∧ Ss.length ≤ 9223372036854775807 ∧ ∀ s ∈ Ss, s.f2.length ≤ 9223372036854775807 := by
  obtain ⟨cs, rfl, _⟩ := okWide_struct Try.underlying25 hv
  obtain ⟨fuel, hf⟩ := h
  obtain ⟨⟨Hs, Ss⟩, ⟨c0', c1', e, ⟨A0, c0, rfl, l0, g0⟩, ⟨A1, c1, rfl, l1, g1⟩⟩, q0, q1, q2⟩ := op25.reads _ _ _ _ _ _ _ _ hf
  refine ⟨A0, c0, Hs, A1, c1, Ss, ?_, g0, l0, g1, l1, q0, q2, q1⟩
  have e' : cs.toList = [.slice A0 Hs.length c0, .slice A1 Ss.length c1] := e
  have : cs = #[.slice A0 Hs.length c0, .slice A1 Ss.length c1] := by
    apply Array.toList_inj.1
    rw [e']
  rw [this]
set_option maxRecDepth 100000 in
theorem open_list {H : Type} {enc : TypeId × Value → H} {W : World} {base b0 : Nat} {spare : Nat → Bool} {held : Bool} {r : Reach} {v : Value} {d : DataW H} {p : List MemPlace} (hv : Value.okWide Try.prog W r b0 28 v) (h : DataW.Trod enc Try.prog W base spare held 28 v d p) :
    ∃ (A : Option Addr) (c : Nat) (l : List Int), v = .slice A l.length c ∧ Kd.C (Kd.int .i64) W A l.length l ∧ l.length ≤ c ∧ l.length ≤ 9223372036854775807 ∧ ∀ x ∈ l, (Lit.int .i64 x).wf = true := by
  obtain ⟨a, len, cap, rfl⟩ := okWide_slice (by kernel_rfl : Try.prog.underlying 28 = some (.slice 3)) hv
  obtain ⟨fuel, hf⟩ := h
  obtain ⟨l, ⟨A, c, e, hl, g⟩, q0, q1⟩ := op28.reads _ _ _ _ _ _ _ _ hf
  have e' : [Value.slice a len cap] = [.slice A l.length c] := e
  simp only [List.cons.injEq, Value.slice.injEq, and_true] at e'
  obtain ⟨rfl, rfl, rfl⟩ := e'
  exact ⟨_, _, l, rfl, g, hl, q1, q0⟩
end Go.Proofs.Ytmkdllaagaimlaa.C
end
section
namespace Go.Proofs.Ytmkdllaagaimlaa.coolAgains
open Go.ChangeShapes Go.WideShapes Go.ChangeAt Go.RowKit Go.Proofs.Ytmkdllaagaimlaa.C Go.Proofs.YtmkdllaagaimlaaW.PrintWords
set_option linter.unusedVariables false
theorem own : ownKnob Try.prog.godebug = none := by kernel_rfl
theorem laidOut : laidOutB Try.prog = true := by kernel_rfl
set_option maxRecDepth 100000 in
theorem lifted (os : Os) (started : os.Started) (H : Type) (enc : TypeId × Value → H) :
    ReturnsInHanded {} Try.checked os 5 .any (Rows.coolAgainsSpec.pre6 enc Try.prog Try.f5 Rows.coolAgainsRow.domain false) (Rows.coolAgainsSpec.post enc Try.prog Try.f5 false true false false) := by
  refine returnsInHanded_of_change_sized (C := Try.checked) own started (by kernel_rfl) Try.func5
    (ChangeSpec.witness6 (enc := enc) (C := Try.checked) false ⟨#[], #[.agg #[.slice none 0 0, .slice none 0 0], .slice none 0 0, .slice none 0 0], []⟩ 8 (by kernel_rfl) (by kernel_rfl) (by kernel_rfl) (by kernel_rfl)) ?_
  intro W base args ds gs before hval0 hW hcnd hsz0 _
  have hval : ∀ (j : Nat) t v, Try.f5.params[j]? = some t → args[j]? = some v → Value.okWide Try.prog W .any base t v := hval0
  have hW' := hW
  obtain ⟨p, q, hA0, hV, rfl, hfz, hnd⟩ := hW
  have hA : DataW.TrodAll enc Try.prog W 0 (fun _ => true) true Try.f5.params.toList args.toList ds p := hA0
  rw [Try.params5] at hA hval
  obtain ⟨v0, vs0, d0, ds0, p0, q0, hargs, rfl, rfl, h0, r0⟩ := trodAll_cons hA
  obtain ⟨v1, vs1, d1, ds1, p1, q1, rfl, rfl, rfl, h1, r1⟩ := trodAll_cons r0
  obtain ⟨v2, vs2, d2, ds2, p2, q2, rfl, rfl, rfl, h2, r2⟩ := trodAll_cons r1
  obtain ⟨rfl, rfl, rfl⟩ := trodAll_nil r2
  obtain rfl : args = #[v0, v1, v2] := by cases args; simp_all
  obtain ⟨rfl, rfl⟩ := trodVars_none hV
  have k0 := h0
  have lt0 : ∀ x ∈ p0, x.block < W.heap.size := by obtain ⟨m, hm⟩ := k0; exact DataW.trod_lt m _ _ _ hm
  obtain ⟨A0, c0, H0, B0, e0, S0, rfl, a0, b0, f0, g0, x0, y0, z0⟩ := open_town (hval 0 25 v0 rfl rfl) h0
  have k1 := h1
  have lt1 : ∀ x ∈ p1, x.block < W.heap.size := by obtain ⟨m, hm⟩ := k1; exact DataW.trod_lt m _ _ _ hm
  obtain ⟨A1, c1, l1, rfl, a1, b1, x1, y1⟩ := open_list (hval 1 28 v1 rfl rfl) h1
  have k2 := h2
  have lt2 : ∀ x ∈ p2, x.block < W.heap.size := by obtain ⟨m, hm⟩ := k2; exact DataW.trod_lt m _ _ _ hm
  obtain ⟨A2, c2, l2, rfl, a2, b2, x2, y2⟩ := open_list (hval 2 28 v2 rfl rfl) h2
  clear hA0 hval0 hsz0
  obtain ⟨k, hk⟩ := (CoolAgains_pure H0 S0 l1 l2 x0 y0 z0 x1 x2).rounds
  refine (taliklaw03_CoolAgains.calls k A0 c0 H0 B0 e0 S0 A1 c1 l1 A2 c2 l2 true W a0 b0 f0 g0 a1 b1 a2 b2 hk).mono fun e W' ⟨he, bel⟩ => ?_
  subst he
  exact ⟨_, rfl, _, _, _, [], _, [], hW', trodAll_mk1 (shut_bool Try.underlying4 _), (trodAll_cons_mk (Below.trod laidOut (by kernel_rfl) (of_decide_eq_true (by kernel_rfl)) k0 bel lt0) (trodAll_cons_mk (Below.trod laidOut (by kernel_rfl) (of_decide_eq_true (by kernel_rfl)) k1 bel lt1) (trodAll_cons_mk (Below.trod laidOut (by kernel_rfl) (of_decide_eq_true (by kernel_rfl)) k2 bel lt2) trodAll_mk0))), rfl, bel.frame _, fun h => by cases h⟩
theorem over : Rows.coolAgainsRow.holds Try.pinned (OpenSpec.ofChange Rows.coolAgainsSpec) :=
  OpenClaim.holds_of_wide 5 Try.f5 rfl rfl rfl rfl rfl rfl rfl ⟨rfl, rfl, rfl, rfl, rfl⟩ rfl rfl rfl rfl rfl (by kernel_rfl) Try.func5 (by kernel_rfl)
    (of_decide_eq_true (by kernel_rfl)) (by unfold Func.isWrapper; first | (rw [if_pos (by decide +kernel)]; kernel_rfl) | (rw [if_neg (by decide +kernel)]; exact ⟨rfl, rfl⟩))
    (fun os started H enc _ => lifted os started H enc)
theorem proved : Rows.CoolAgainsSaid := over
end Go.Proofs.Ytmkdllaagaimlaa.coolAgains
namespace Go.Proofs.Ytmkdllaagaimlaa
theorem coolAgains_holds : Rows.CoolAgainsSaid := coolAgains.proved
#print axioms coolAgains_holds
end Go.Proofs.Ytmkdllaagaimlaa
end
