/- Lemmas for the proof that the row of CoolBroken holds: contracts of the functions it reaches, and plain laws; no condition beyond each lemma's own. -/
import Derived.Test.YtmkdllaagaimlaaTB1
import Derived.Laws.BitsLemmas
import Derived.Laws.StructEq
import Derived.MapKept
import Derived.Recover
import Derived.Defers
import Derived.WalkLawsBesides
import Derived.WalkSmall
import Derived.WideMake
section
namespace Go.Proofs.Ytmkdllaagaimlaa.C
open Go.RowKit Go.Proofs.YtmkdllaagaimlaaW.PrintWords Go.Proofs.YtmkdllaagaimlaaW.PrintLast Go.Proofs.YtmkdllaagaimlaaW.PrintMore
set_option linter.unusedVariables false
set_option linter.unusedSimpArgs false
def idxf {α : Type} (p : α → Bool) : List α → Int
  | [] => -1
  | x :: r => if p x = true then 0 else (if idxf p r = -1 then -1 else idxf p r + 1)
theorem idxf_hit {α : Type} (p : α → Bool) (l : List α) (i : Nat) (x : α) (h : l[i]? = some x) (hp : p x = true) (hb : ∀ j, j < i → ∀ y, l[j]? = some y → p y = false) : idxf p l = i := by
 induction l generalizing i with
 | nil => simp at h
 | cons y r ih =>
  cases i with
  | zero => simp at h; subst h; simp [idxf, hp]
  | succ i =>
   (have h0 := hb 0 (by omega) y (by simp)); (have := ih i (by simpa using h) (fun j hj z hz => hb (j + 1) (by omega) z (by simpa using hz))); simp only [idxf, h0, this]; (rw [if_neg (by simp), if_neg (by omega)]); omega
theorem idxf_miss {α : Type} (p : α → Bool) (l : List α) (hb : ∀ (j : Nat) y, l[j]? = some y → p y = false) : idxf p l = -1 := by
 induction l with
 | nil => rfl
 | cons y r ih =>
  (have h0 := hb 0 y (by simp)); (have := ih (fun j z hz => hb (j + 1) z (by simpa using hz))); simp [idxf, h0, this]
theorem idxf_any {α : Type} (p : α → Bool) (l : List α) : (0 ≤ idxf p l ↔ l.any p = true) ∧ -1 ≤ idxf p l := by
 induction l with
 | nil => simp [idxf]
 | cons x r ih =>
  obtain ⟨h1, h2⟩ := ih; simp only [idxf, List.any_cons]; by_cases hp : p x = true
  · simp [hp]
  · (have hp' : p x = false := by simpa using hp); rw [if_neg hp, hp', Bool.false_or, ← h1]; by_cases h : idxf p r = -1
    · rw [if_pos h]; simp [h]
    · rw [if_neg h]; omega
def spanB (s : S58) : Bool := decide (0 ≤ s.f0) && decide (s.f0 ≤ s.f1) && decide (s.f1 ≤ 1000000)
def houseB (h : S60) : Bool := spanB h.f0 && decide (0 ≤ h.f1) && decide (h.f1 ≤ 100)
def siteB (n : Nat) (s : S64) : Bool := decide (0 ≤ s.f0) && decide (s.f0 ≤ 1000000) && (decide (1 ≤ s.f1) && decide (s.f1 ≤ 100)) && decide (s.f2.length = n) && s.f2.all spanB
theorem cool_span_f (s : S58) : cool_span.f s.f0 s.f1 = some (spanB s) := by
 unfold cool_span.f spanB; by_cases h1 : 0 ≤ s.f0
 · by_cases h2 : s.f0 ≤ s.f1
   · rw [if_pos h1, if_pos h2]; simp [h1, h2]
   · rw [if_pos h1, if_neg h2]; simp [h2]
 · rw [if_neg h1]; simp [h1]
theorem cool_in_f (a b c : Int) : cool_in.f a b c = some (decide (b ≤ a) && decide (a ≤ c)) := by
 unfold cool_in.f; by_cases h1 : b ≤ a
 · rw [if_pos h1]; simp [h1]
 · rw [if_neg h1]; simp [h1]
theorem cool_valid_1_f (h : S60) : cool_valid_1.f h.f0.f0 h.f0.f1 h.f1 = some (!houseB h) := by
 unfold cool_valid_1.f houseB; rw [cool_span_f, cool_in_f]; (cases spanB h.f0 <;> simp)
theorem cool_valid_2_1_f (s : S58) : cool_valid_2_1.f s.f0 s.f1 = some (!spanB s) := by
 unfold cool_valid_2_1.f; rw [cool_span_f]; rfl
theorem cv1 (h : S60) (w : World) (b : Bool) (hb : houseB h = b) : Calls Try.prog 75 #[.agg #[.int .i64 h.f0.f0, .int .i64 h.f0.f1, .int .i64 h.f1]] w fun e w' => e = .returned (.bool (!b)) ∧ Below w.heap.size w w' :=
  cool_valid_1.calls _ _ _ _ _ (by rw [cool_valid_1_f, hb])
theorem cv21 (s : S58) (w : World) (b : Bool) (hb : spanB s = b) : Calls Try.prog 80 #[.agg #[.int .i64 s.f0, .int .i64 s.f1]] w fun e w' => e = .returned (.bool (!b)) ∧ Below w.heap.size w w' :=
  cool_valid_2_1.calls _ _ _ _ (by rw [cool_valid_2_1_f, hb])
set_option maxHeartbeats 1000000 in
set_option maxRecDepth 100000 in
theorem idx_house.calls (A0 : Option Addr) (c0 : Nat) (l0 : List S60) (w : World) (hr0 : Kd.C k60 w A0 l0.length l0) (hm : l0.length ≤ 9223372036854775807) :
    Calls Try.prog 95 #[.slice A0 l0.length c0, .func (.func 75) #[] #[]] w fun e w' => e = .returned (.int .i64 (idxf (fun h => !houseB h) l0)) ∧ Below w.heap.size w w' := by
 have HR0 := Aside0.mk hr0; clear hr0; go_enter Try.func95, Try.ntmps95; go_wp2; (go_loopg [5, 8] (l0.length + 1) (fun kq v5 v8 w' => ∃ (i : Nat), v8 = .int .i64 i ∧ Aside0 (i + kq = l0.length + 1 ∧ ∀ j, j < i → ∀ y, l0[j]? = some y → houseB y = true) ∧ Aside0 (Below w.heap.size w w'))); (case atStart => exact ⟨0, rfl, ⟨by omega, by omega⟩, ⟨Below.refl _ _⟩⟩)
 case round =>
  obtain ⟨i, rfl, HI, HB⟩ := hrel; by_cases hi : i < l0.length
  · (obtain ⟨ad, e, hx0, hx1, hx2⟩ := at_T60 (Kd.C_below HR0.out HB.out) (i : Int) (by omega) (by omega)); subst e; simp only [Int.toNat_natCast] at hx0 hx1 hx2; (have hd : decide ((i : Int) < (l0.length : Int)) = true := decide_eq_true (by omega)); (have hd0 : decide (0 ≤ (i : Int)) = true := decide_eq_true (by omega)); (have hx : l0[i]? = some (rd_T60 l0 (i : Int)) := by simp [rd_T60, List.getElem?_eq_getElem hi, List.getD_eq_getElem?_getD]); by_cases hp : houseB (rd_T60 l0 (i : Int)) = true
    · have HX := Aside0.mk (And.intro hx hp); clear hx hp; go_wp2_with (go_at_call 75; refine (cv1 _ _ true HX.out.2).mono ?_; rintro e w' ⟨rfl, hb⟩); go_roundg (l0.length - i); (case measure => have := HI.out.1; omega)
      case rel => exact ⟨i + 1, by go_num, ⟨by have := HI.out.1; omega, fun j hj y hy => by
       rcases Nat.lt_or_ge j i with h | h
       · exact HI.out.2 j h y hy
       · obtain rfl : j = i := by omega
         rw [HX.out.1] at hy; cases hy; exact HX.out.2⟩, ⟨below_step HB.out hb⟩⟩
    · replace hp := Bool.eq_false_iff.mpr hp; have HX := Aside0.mk (And.intro hx hp); clear hx hp; go_wp2_with (go_at_call 75; refine (cv1 _ _ false HX.out.2).mono ?_; rintro e w' ⟨rfl, hb⟩); go_ret; refine ⟨?_, below_step HB.out hb⟩; (rw [idxf_hit (fun h => !houseB h) l0 i _ HX.out.1 (by simp [HX.out.2]) (fun j hj y hy => by simp [HI.out.2 j hj y hy])]); rfl
  · (have hd : decide ((i : Int) < (l0.length : Int)) = false := decide_eq_false (by omega)); go_wp2; go_ret; refine ⟨?_, HB.out⟩
    rw [idxf_miss (fun h => !houseB h) l0 (fun j y hy => by
     have : j < l0.length := (List.getElem?_eq_some_iff.1 hy).1
     simp [HI.out.2 j (by omega) y hy])]
    rfl
set_option maxHeartbeats 1000000 in
theorem cont_house.calls (A0 : Option Addr) (c0 : Nat) (l0 : List S60) (w : World) (hr0 : Kd.C k60 w A0 l0.length l0) (hm : l0.length ≤ 9223372036854775807) (b : Bool) (hb0 : (l0.any fun h => !houseB h) = b) :
    Calls Try.prog 74 #[.slice A0 l0.length c0, .func (.func 75) #[] #[]] w fun e w' => e = .returned (.bool b) ∧ Below w.heap.size w w' := by
 have HR0 := Aside0.mk hr0; clear hr0; have HM := Aside0.mk hm; clear hm; (have HA := Aside0.mk (idxf_any (fun h => !houseB h) l0)); have HB0 := Aside0.mk hb0; clear hb0; go_enter Try.func74, Try.ntmps74; go_wp2_with (go_at_call 95; refine (idx_house.calls _ _ l0 _ HR0.out HM.out).mono ?_; rintro e w' ⟨rfl, hb⟩); go_ret; refine ⟨?_, hb⟩; have h1 := HA.out.1; rw [HB0.out] at h1; (have : b = decide (0 ≤ idxf (fun h => !houseB h) l0) := by cases b <;> simp_all); rw [this]; rfl
set_option maxHeartbeats 1000000 in
set_option maxRecDepth 100000 in
theorem idx_span.calls (A0 : Option Addr) (c0 : Nat) (l0 : List S58) (w : World) (hr0 : Kd.C k58 w A0 l0.length l0) (hm : l0.length ≤ 9223372036854775807) :
    Calls Try.prog 97 #[.slice A0 l0.length c0, .func (.func 80) #[] #[]] w fun e w' => e = .returned (.int .i64 (idxf (fun h => !spanB h) l0)) ∧ Below w.heap.size w w' := by
 have HR0 := Aside0.mk hr0; clear hr0; go_enter Try.func97, Try.ntmps97; go_wp2; (go_loopg [5, 8] (l0.length + 1) (fun kq v5 v8 w' => ∃ (i : Nat), v8 = .int .i64 i ∧ Aside0 (i + kq = l0.length + 1 ∧ ∀ j, j < i → ∀ y, l0[j]? = some y → spanB y = true) ∧ Aside0 (Below w.heap.size w w'))); (case atStart => exact ⟨0, rfl, ⟨by omega, by omega⟩, ⟨Below.refl _ _⟩⟩)
 case round =>
  obtain ⟨i, rfl, HI, HB⟩ := hrel; by_cases hi : i < l0.length
  · (obtain ⟨ad, e, hx0, hx1⟩ := at_T58 (Kd.C_below HR0.out HB.out) (i : Int) (by omega) (by omega)); subst e; simp only [Int.toNat_natCast] at hx0 hx1; (have hd : decide ((i : Int) < (l0.length : Int)) = true := decide_eq_true (by omega)); (have hd0 : decide (0 ≤ (i : Int)) = true := decide_eq_true (by omega)); (have hx : l0[i]? = some (rd_T58 l0 (i : Int)) := by simp [rd_T58, List.getElem?_eq_getElem hi, List.getD_eq_getElem?_getD]); by_cases hp : spanB (rd_T58 l0 (i : Int)) = true
    · have HX := Aside0.mk (And.intro hx hp); clear hx hp; go_wp2_with (go_at_call 80; refine (cv21 _ _ true HX.out.2).mono ?_; rintro e w' ⟨rfl, hb⟩); go_roundg (l0.length - i); (case measure => have := HI.out.1; omega)
      case rel => exact ⟨i + 1, by go_num, ⟨by have := HI.out.1; omega, fun j hj y hy => by
       rcases Nat.lt_or_ge j i with h | h
       · exact HI.out.2 j h y hy
       · obtain rfl : j = i := by omega
         rw [HX.out.1] at hy; cases hy; exact HX.out.2⟩, ⟨below_step HB.out hb⟩⟩
    · replace hp := Bool.eq_false_iff.mpr hp; have HX := Aside0.mk (And.intro hx hp); clear hx hp; go_wp2_with (go_at_call 80; refine (cv21 _ _ false HX.out.2).mono ?_; rintro e w' ⟨rfl, hb⟩); go_ret; refine ⟨?_, below_step HB.out hb⟩; (rw [idxf_hit (fun h => !spanB h) l0 i _ HX.out.1 (by simp [HX.out.2]) (fun j hj y hy => by simp [HI.out.2 j hj y hy])]); rfl
  · (have hd : decide ((i : Int) < (l0.length : Int)) = false := decide_eq_false (by omega)); go_wp2; go_ret; refine ⟨?_, HB.out⟩
    rw [idxf_miss (fun h => !spanB h) l0 (fun j y hy => by
     have : j < l0.length := (List.getElem?_eq_some_iff.1 hy).1
     simp [HI.out.2 j (by omega) y hy])]
    rfl
set_option maxHeartbeats 1000000 in
theorem cont_span.calls (A0 : Option Addr) (c0 : Nat) (l0 : List S58) (w : World) (hr0 : Kd.C k58 w A0 l0.length l0) (hm : l0.length ≤ 9223372036854775807) (b : Bool) (hb0 : (l0.any fun h => !spanB h) = b) :
    Calls Try.prog 79 #[.slice A0 l0.length c0, .func (.func 80) #[] #[]] w fun e w' => e = .returned (.bool b) ∧ Below w.heap.size w w' := by
 have HR0 := Aside0.mk hr0; clear hr0; have HM := Aside0.mk hm; clear hm; (have HA := Aside0.mk (idxf_any (fun h => !spanB h) l0)); have HB0 := Aside0.mk hb0; clear hb0; go_enter Try.func79, Try.ntmps79; go_wp2_with (go_at_call 97; refine (idx_span.calls _ _ l0 _ HR0.out HM.out).mono ?_; rintro e w' ⟨rfl, hb⟩); go_ret; refine ⟨?_, hb⟩; have h1 := HA.out.1; rw [HB0.out] at h1; (have : b = decide (0 ≤ idxf (fun h => !spanB h) l0) := by cases b <;> simp_all); rw [this]; rfl
end Go.Proofs.Ytmkdllaagaimlaa.C
end
section
namespace Go.Proofs.Ytmkdllaagaimlaa.C
open Go.RowKit Go.Proofs.YtmkdllaagaimlaaW.PrintWords Go.Proofs.YtmkdllaagaimlaaW.PrintLast Go.Proofs.YtmkdllaagaimlaaW.PrintMore
set_option linter.unusedVariables false
set_option linter.unusedSimpArgs false
def TBox (w : World) (B : Nat) (A0 : Option Addr) (n0 c0 : Nat) (A1 : Option Addr) (n1 c1 : Nat) : Prop := w.heap[B]? = some (.cells #[.slice A0 n0 c0, .slice A1 n1 c1] 25 (0, 0))
theorem TBox.below {w w' : World} {B : Nat} {A0 A1 : Option Addr} {n0 c0 n1 c1 : Nat} (h : TBox w B A0 n0 c0 A1 n1 c1) (hb : Below w.heap.size w w') : TBox w' B A0 n0 c0 A1 n1 c1 := blk_below h hb
theorem TBox.drewN {w : World} {B : Nat} {A0 A1 : Option Addr} {n0 c0 n1 c1 : Nat} (h : TBox w B A0 n0 c0 A1 n1 c1) (n : Nat) : TBox (w.drewN n) B A0 n0 c0 A1 n1 c1 := blk_drewN h n
theorem siteB_1 {n : Nat} {s : S64} (h : (decide (0 ≤ s.f0) && decide (s.f0 ≤ 1000000)) = false) : siteB n s = false := by unfold siteB; rw [h]; rfl
theorem siteB_2 {n : Nat} {s : S64} (h : (decide (1 ≤ s.f1) && decide (s.f1 ≤ 100)) = false) : siteB n s = false := by unfold siteB; rw [h]; simp
theorem siteB_3 {n : Nat} {s : S64} (h : ¬ s.f2.length = n) : siteB n s = false := by unfold siteB; rw [decide_eq_false h]; simp
theorem siteB_4 {n : Nat} {s : S64} (h1 : (decide (0 ≤ s.f0) && decide (s.f0 ≤ 1000000)) = true) (h2 : (decide (1 ≤ s.f1) && decide (s.f1 ≤ 100)) = true) (h3 : s.f2.length = n) : siteB n s = s.f2.all spanB := by unfold siteB; rw [h1, h2, decide_eq_true h3]; simp
theorem any_not {α : Type} (p : α → Bool) (l : List α) : (l.any fun h => !p h) = !l.all p := by
 induction l with
 | nil => rfl
 | cons x r ih => simp only [List.any_cons, List.all_cons, ih, Bool.not_and]
set_option maxHeartbeats 4000000 in
set_option maxRecDepth 100000 in
theorem cool_valid_2.calls (s : S64) (A2 : Option Addr) (c2 : Nat) (B : Nat) (A0 : Option Addr) (n0 c0 : Nat) (A1 : Option Addr) (n1 c1 : Nat) (w : World) (hr2 : Kd.C k58 w A2 s.f2.length s.f2) (hm : s.f2.length ≤ 9223372036854775807) (hm0 : n0 ≤ 9223372036854775807) (ht : TBox w B A0 n0 c0 A1 n1 c1) (b : Bool) (hb0 : siteB n0 s = b) :
    Calls Try.prog 78 #[.agg #[.int .i64 s.f0, .int .i64 s.f1, .slice A2 s.f2.length c2], .pointer (some ⟨B, 0, none⟩)] w fun e w' => e = .returned (.bool (!b)) ∧ Below w.heap.size w w' := by
 have hu64 := Try.underlying64; have hu25 := Try.underlying25; have HT := Aside0.mk ht; have HR2 := Aside0.mk hr2; have HM := Aside0.mk hm; clear ht hr2; by_cases h1 : (decide (0 ≤ s.f0) && decide (s.f0 ≤ 1000000)) = true
 case neg =>
  replace h1 := Bool.eq_false_iff.mpr h1; (obtain rfl : b = false := by rw [← hb0, siteB_1 h1]); have H1 := Aside0.mk h1; clear h1 hb0; go_enter Try.func78, Try.ntmps78; (go_wp2_with (first | ((with_reducible refine gate_dst (N := 2) rfl ?_); refine box_event ?hg (N := 2) ?hd (cs := #[.int .i64 s.f0, .int .i64 s.f1, .slice A2 s.f2.length c2]) (t := 64) ?hr ?_; (case hd => rfl); (case hg => rfl); (case hr => first | (go_simp; done) | (go_simp; rfl)); intro gb hg w8 hbox hb; have HBX := Aside0.mk hbox; have HB := Aside0.mk hb; have hcz0 : w8.cell? ⟨gb, 0, none⟩ = some (.int .i64 s.f0) := (blk_cell hbox 0).trans rfl; have hcz1 : w8.cell? ⟨gb, 1, none⟩ = some (.int .i64 s.f1) := (blk_cell hbox 1).trans rfl; have hcz2 : w8.cell? ⟨gb, 2, none⟩ = some (.slice A2 s.f2.length c2) := (blk_cell hbox 2).trans rfl; have htb := TBox.below HT.out hb; have htz0 : w8.cell? ⟨B, 0, none⟩ = some (.slice A0 n0 c0) := (blk_cell htb 0).trans rfl; clear htb hbox hb hg) | (go_at_call 72; (with_reducible refine (cool_in.calls s.f0 0 1000000 false _ ?s1).mono ?_); (case s1 => exact ((cool_in_f _ _ _).trans (congrArg some H1.out))); rintro e w9 ⟨rfl, ⟨nd, rfl⟩⟩))); go_ret; exact ⟨rfl, pw_below_drewN HB.out _⟩
 case pos =>
 by_cases h2 : (decide (1 ≤ s.f1) && decide (s.f1 ≤ 100)) = true
 case neg =>
  replace h2 := Bool.eq_false_iff.mpr h2; (obtain rfl : b = false := by rw [← hb0, siteB_2 h2]); have H1 := Aside0.mk h1; have H2 := Aside0.mk h2; clear h1 h2 hb0; go_enter Try.func78, Try.ntmps78; (go_wp2_with (first | ((with_reducible refine gate_dst (N := 2) rfl ?_); refine box_event ?hg (N := 2) ?hd (cs := #[.int .i64 s.f0, .int .i64 s.f1, .slice A2 s.f2.length c2]) (t := 64) ?hr ?_; (case hd => rfl); (case hg => rfl); (case hr => first | (go_simp; done) | (go_simp; rfl)); intro gb hg w8 hbox hb; have HBX := Aside0.mk hbox; have HB := Aside0.mk hb; have hcz0 : w8.cell? ⟨gb, 0, none⟩ = some (.int .i64 s.f0) := (blk_cell hbox 0).trans rfl; have hcz1 : w8.cell? ⟨gb, 1, none⟩ = some (.int .i64 s.f1) := (blk_cell hbox 1).trans rfl; have hcz2 : w8.cell? ⟨gb, 2, none⟩ = some (.slice A2 s.f2.length c2) := (blk_cell hbox 2).trans rfl; have htb := TBox.below HT.out hb; have htz0 : w8.cell? ⟨B, 0, none⟩ = some (.slice A0 n0 c0) := (blk_cell htb 0).trans rfl; clear htb hbox hb hg) | (go_at_call 72; (with_reducible refine (cool_in.calls s.f0 0 1000000 true _ ?s1).mono ?_); (case s1 => exact (cool_in_f _ _ _).trans (congrArg some H1.out)); rintro e w9 ⟨rfl, ⟨nd, rfl⟩⟩) | (go_at_call 72; (with_reducible refine (cool_in.calls s.f1 1 100 false _ ?s2).mono ?_); (case s2 => exact (cool_in_f _ _ _).trans (congrArg some H2.out)); rintro e w9 ⟨rfl, ⟨nd, rfl⟩⟩))); go_ret; exact ⟨rfl, pw_below_drewN HB.out _⟩
 case pos =>
 by_cases h3 : s.f2.length = n0
 case neg =>
  (obtain rfl : b = false := by rw [← hb0, siteB_3 h3]); have H1 := Aside0.mk h1; have H2 := Aside0.mk h2; (have h3b : ((s.f2.length : Int) != (n0 : Int)) = true := bne_iff_ne.mpr (by omega)); (have h3c : (s.f2.length != n0) = true := bne_iff_ne.mpr (by omega)); clear h1 h2 h3 hb0; go_enter Try.func78, Try.ntmps78; (go_wp2_with (first | ((with_reducible refine gate_dst (N := 2) rfl ?_); refine box_event ?hg (N := 2) ?hd (cs := #[.int .i64 s.f0, .int .i64 s.f1, .slice A2 s.f2.length c2]) (t := 64) ?hr ?_; (case hd => rfl); (case hg => rfl); (case hr => first | (go_simp; done) | (go_simp; rfl)); intro gb hg w8 hbox hb; have HBX := Aside0.mk hbox; have HB := Aside0.mk hb; have hcz0 : w8.cell? ⟨gb, 0, none⟩ = some (.int .i64 s.f0) := (blk_cell hbox 0).trans rfl; have hcz1 : w8.cell? ⟨gb, 1, none⟩ = some (.int .i64 s.f1) := (blk_cell hbox 1).trans rfl; have hcz2 : w8.cell? ⟨gb, 2, none⟩ = some (.slice A2 s.f2.length c2) := (blk_cell hbox 2).trans rfl; have htb := TBox.below HT.out hb; have htz0 : w8.cell? ⟨B, 0, none⟩ = some (.slice A0 n0 c0) := (blk_cell htb 0).trans rfl; clear htb hbox hb hg) | (go_at_call 72; (with_reducible refine (cool_in.calls s.f0 0 1000000 true _ ?s1).mono ?_); (case s1 => exact (cool_in_f _ _ _).trans (congrArg some H1.out)); rintro e w9 ⟨rfl, ⟨nd, rfl⟩⟩) | (go_at_call 72; (with_reducible refine (cool_in.calls s.f1 1 100 true _ ?s2).mono ?_); (case s2 => exact (cool_in_f _ _ _).trans (congrArg some H2.out)); rintro e w9 ⟨rfl, ⟨nd, rfl⟩⟩))); go_ret; exact ⟨rfl, pw_below_drewN HB.out _⟩
 case pos =>
  have H1 := Aside0.mk h1; have H2 := Aside0.mk h2; (have HS := Aside0.mk (show (s.f2.any fun h => !spanB h) = !b by rw [any_not, ← siteB_4 h1 h2 h3, hb0])); (have h3b : ((s.f2.length : Int) != (n0 : Int)) = false := bne_eq_false_iff_eq.mpr (by omega)); (have h3c : (s.f2.length != n0) = false := bne_eq_false_iff_eq.mpr (by omega)); clear h1 h2 h3 hb0; go_enter Try.func78, Try.ntmps78; (go_wp2_with (first | ((with_reducible refine gate_dst (N := 2) rfl ?_); refine box_event ?hg (N := 2) ?hd (cs := #[.int .i64 s.f0, .int .i64 s.f1, .slice A2 s.f2.length c2]) (t := 64) ?hr ?_; (case hd => rfl); (case hg => rfl); (case hr => first | (go_simp; done) | (go_simp; rfl)); intro gb hg w8 hbox hb; have HBX := Aside0.mk hbox; have HB := Aside0.mk hb; have hcz0 : w8.cell? ⟨gb, 0, none⟩ = some (.int .i64 s.f0) := (blk_cell hbox 0).trans rfl; have hcz1 : w8.cell? ⟨gb, 1, none⟩ = some (.int .i64 s.f1) := (blk_cell hbox 1).trans rfl; have hcz2 : w8.cell? ⟨gb, 2, none⟩ = some (.slice A2 s.f2.length c2) := (blk_cell hbox 2).trans rfl; have htb := TBox.below HT.out hb; have htz0 : w8.cell? ⟨B, 0, none⟩ = some (.slice A0 n0 c0) := (blk_cell htb 0).trans rfl; clear htb hbox hb hg) | (go_at_call 72; (with_reducible refine (cool_in.calls s.f0 0 1000000 true _ ?s1).mono ?_); (case s1 => exact (cool_in_f _ _ _).trans (congrArg some H1.out)); rintro e w9 ⟨rfl, ⟨nd, rfl⟩⟩) | (go_at_call 72; (with_reducible refine (cool_in.calls s.f1 1 100 true _ ?s2).mono ?_); (case s2 => exact (cool_in_f _ _ _).trans (congrArg some H2.out)); rintro e w9 ⟨rfl, ⟨nd, rfl⟩⟩) | (go_at_call 79; refine (cont_span.calls _ _ s.f2 _ (Kd.C_drewN (Kd.C_below HR2.out HB.out) _) HM.out _ HS.out).mono ?_; rintro e w11 ⟨rfl, hb11⟩))); go_ret; exact ⟨rfl, below_step (pw_below_drewN HB.out _) hb11⟩
set_option maxHeartbeats 1000000 in
set_option maxRecDepth 100000 in
theorem idx_site.calls (A0 : Option Addr) (c0 : Nat) (l0 : List S64) (B : Nat) (A1 : Option Addr) (n1 k1 : Nat) (A2 : Option Addr) (n2 k2 : Nat) (w : World) (hr0 : Kd.C k64 w A0 l0.length l0) (ht : TBox w B A1 n1 k1 A2 n2 k2) (hn1 : n1 ≤ 9223372036854775807) (hm : l0.length ≤ 9223372036854775807) :
    Calls Try.prog 96 #[.slice A0 l0.length c0, .func (.func 78) #[] #[.pointer (some ⟨B, 0, none⟩)]] w fun e w' => e = .returned (.int .i64 (idxf (fun h => !siteB n1 h) l0)) ∧ Below w.heap.size w w' := by
 have HR0 := Aside0.mk hr0; clear hr0; have HT := Aside0.mk ht; have HN1 := Aside0.mk hn1; clear ht hn1; go_enter Try.func96, Try.ntmps96; go_wp2; (go_loopg [5, 8] (l0.length + 1) (fun kq v5 v8 w' => ∃ (i : Nat), v8 = .int .i64 i ∧ Aside0 (i + kq = l0.length + 1 ∧ ∀ j, j < i → ∀ y, l0[j]? = some y → siteB n1 y = true) ∧ Aside0 (Below w.heap.size w w'))); (case atStart => exact ⟨0, rfl, ⟨by omega, by omega⟩, ⟨Below.refl _ _⟩⟩)
 case round =>
  obtain ⟨i, rfl, HI, HB⟩ := hrel; by_cases hi : i < l0.length
  · (obtain ⟨ad, A3, c3, e, hx0, hx1, hx2, hl3, hr3⟩ := at_T64 (Kd.C_below HR0.out HB.out) (i : Int) (by omega) (by omega)); subst e; have HR3 := Aside0.mk hr3; (have HM3 := Aside0.mk (show (rd_T64 l0 (i : Int)).f2.length ≤ 9223372036854775807 from hr3.2.1)); clear hr3 hl3; simp only [Int.toNat_natCast] at hx0 hx1 hx2; (have hd : decide ((i : Int) < (l0.length : Int)) = true := decide_eq_true (by omega)); (have hd0 : decide (0 ≤ (i : Int)) = true := decide_eq_true (by omega)); (have hx : l0[i]? = some (rd_T64 l0 (i : Int)) := by simp [rd_T64, List.getElem?_eq_getElem hi, List.getD_eq_getElem?_getD]); by_cases hp : siteB n1 (rd_T64 l0 (i : Int)) = true
    · have HX := Aside0.mk (And.intro hx hp); clear hx hp; go_wp2_with (go_at_call 78; refine (cool_valid_2.calls _ _ _ _ _ _ _ _ _ _ _ HR3.out HM3.out HN1.out (HT.out.below HB.out) true HX.out.2).mono ?_; rintro e w' ⟨rfl, hb⟩); go_roundg (l0.length - i); (case measure => have := HI.out.1; omega)
      case rel => exact ⟨i + 1, by go_num, ⟨by have := HI.out.1; omega, fun j hj y hy => by
       rcases Nat.lt_or_ge j i with h | h
       · exact HI.out.2 j h y hy
       · obtain rfl : j = i := by omega
         rw [HX.out.1] at hy; cases hy; exact HX.out.2⟩, ⟨below_step HB.out hb⟩⟩
    · replace hp := Bool.eq_false_iff.mpr hp; have HX := Aside0.mk (And.intro hx hp); clear hx hp; go_wp2_with (go_at_call 78; refine (cool_valid_2.calls _ _ _ _ _ _ _ _ _ _ _ HR3.out HM3.out HN1.out (HT.out.below HB.out) false HX.out.2).mono ?_; rintro e w' ⟨rfl, hb⟩); go_ret; refine ⟨?_, below_step HB.out hb⟩; (rw [idxf_hit (fun h => !siteB n1 h) l0 i _ HX.out.1 (by simp [HX.out.2]) (fun j hj y hy => by simp [HI.out.2 j hj y hy])]); rfl
  · (have hd : decide ((i : Int) < (l0.length : Int)) = false := decide_eq_false (by omega)); go_wp2; go_ret; refine ⟨?_, HB.out⟩
    rw [idxf_miss (fun h => !siteB n1 h) l0 (fun j y hy => by
     have : j < l0.length := (List.getElem?_eq_some_iff.1 hy).1
     simp [HI.out.2 j (by omega) y hy])]
    rfl
set_option maxHeartbeats 1000000 in
theorem cont_site.calls (A0 : Option Addr) (c0 : Nat) (l0 : List S64) (B : Nat) (A1 : Option Addr) (n1 k1 : Nat) (A2 : Option Addr) (n2 k2 : Nat) (w : World) (hr0 : Kd.C k64 w A0 l0.length l0) (ht : TBox w B A1 n1 k1 A2 n2 k2) (hn1 : n1 ≤ 9223372036854775807) (hm : l0.length ≤ 9223372036854775807) (b : Bool) (hb0 : (l0.any fun h => !siteB n1 h) = b) :
    Calls Try.prog 77 #[.slice A0 l0.length c0, .func (.func 78) #[] #[.pointer (some ⟨B, 0, none⟩)]] w fun e w' => e = .returned (.bool b) ∧ Below w.heap.size w w' := by
 have HR0 := Aside0.mk hr0; clear hr0; have HM := Aside0.mk hm; clear hm; (have HA := Aside0.mk (idxf_any (fun h => !siteB n1 h) l0)); have HB0 := Aside0.mk hb0; clear hb0; have HT := Aside0.mk ht; have HN1 := Aside0.mk hn1; clear ht hn1; go_enter Try.func77, Try.ntmps77; go_wp2_with (go_at_call 96; refine (idx_site.calls _ _ l0 B A1 n1 k1 A2 n2 k2 _ HR0.out HT.out HN1.out HM.out).mono ?_; rintro e w' ⟨rfl, hb⟩); go_ret; refine ⟨?_, hb⟩; have h1 := HA.out.1; rw [HB0.out] at h1; (have : b = decide (0 ≤ idxf (fun h => !siteB n1 h) l0) := by cases b <;> simp_all); rw [this]; rfl
def validB (H : List S60) (S : List S64) : Bool := (decide (1 ≤ H.length) && decide (H.length ≤ 6)) && (decide (1 ≤ S.length) && decide (S.length ≤ 10)) && H.all houseB && S.all (siteB H.length)
def cool_valid.f (l0_0 : List S60) (l0_1 : List S64) : Option Bool := some (validB l0_0 l0_1)
set_option maxHeartbeats 4000000 in
set_option maxRecDepth 100000 in
theorem cool_valid.calls (A0_0 : Option Addr) (c0_0 : Nat) (l0_0 : List (S60)) (A0_1 : Option Addr) (c0_1 : Nat) (l0_1 : List (S64)) (r : Bool) (w : World) (hr0_0 : Kd.C k60 w A0_0 l0_0.length l0_0) (hc0_0 : l0_0.length ≤ c0_0) (hr0_1 : Kd.C k64 w A0_1 l0_1.length l0_1) (hc0_1 : l0_1.length ≤ c0_1) (h : cool_valid.f l0_0 l0_1 = some r) :
    Calls Try.prog 47 #[.agg #[.slice A0_0 l0_0.length c0_0, .slice A0_1 l0_1.length c0_1]] w fun e w' => e = .returned (.bool r) ∧ Below w.heap.size w w' := by
 have hu25 := Try.underlying25; (have hmf : ∀ (fn : Fn) (first cap : Array Value) (w : World), (Instr.makeFunc fn first cap).run Try.prog w = .ok (.func fn first cap) w := fun _ _ _ _ => rfl); have hb0 : validB l0_0 l0_1 = r := Option.some.inj h; (have HM0 := Aside0.mk (show l0_0.length ≤ 9223372036854775807 from hr0_0.2.1)); (have HM1 := Aside0.mk (show l0_1.length ≤ 9223372036854775807 from hr0_1.2.1)); have HR0_0 := Aside0.mk hr0_0; have HR0_1 := Aside0.mk hr0_1; clear hr0_0 hr0_1 hc0_0 hc0_1 h; unfold validB at hb0; by_cases h1 : (decide (1 ≤ (l0_0.length : Int)) && decide ((l0_0.length : Int) ≤ 6)) = true
 case neg =>
  replace h1 := Bool.eq_false_iff.mpr h1; (have h1' : (decide (1 ≤ l0_0.length) && decide (l0_0.length ≤ 6)) = false := by rw [← h1]; congr 1 <;> (apply decide_eq_decide.mpr; omega)); (obtain rfl : r = false := by rw [← hb0, h1']; rfl); have H1 := Aside0.mk h1; clear h1 hb0 h1'; go_enter Try.func47, Try.ntmps47; (go_wp2_with (first | ((with_reducible refine gate_dst (N := 1) rfl ?_); refine box_event ?hg (N := 1) ?hd (cs := #[.slice A0_0 l0_0.length c0_0, .slice A0_1 l0_1.length c0_1]) (t := 25) ?hr ?_; (case hd => rfl); (case hg => rfl); (case hr => first | (go_simp; done) | (go_simp; rfl)); intro gb hg w8 hbox hb; have HBX := Aside0.mk (show TBox w8 gb A0_0 l0_0.length c0_0 A0_1 l0_1.length c0_1 from hbox); have HB := Aside0.mk hb; have hcz0 : w8.cell? ⟨gb, 0, none⟩ = some (.slice A0_0 l0_0.length c0_0) := (blk_cell hbox 0).trans rfl; have hcz1 : w8.cell? ⟨gb, 1, none⟩ = some (.slice A0_1 l0_1.length c0_1) := (blk_cell hbox 1).trans rfl; clear hbox hb hg) | (go_at_call 72; (with_reducible refine (cool_in.calls (l0_0.length : Int) 1 6 false _ ?s1).mono ?_); (case s1 => exact (cool_in_f _ _ _).trans (congrArg some H1.out)); rintro e w9 ⟨rfl, ⟨nd, rfl⟩⟩))); go_ret; exact ⟨rfl, pw_below_drewN HB.out _⟩
 case pos =>
 (have h1' : (decide (1 ≤ l0_0.length) && decide (l0_0.length ≤ 6)) = true := by rw [← h1]; congr 1 <;> (apply decide_eq_decide.mpr; omega)); rw [h1', Bool.true_and] at hb0; by_cases h2 : (decide (1 ≤ (l0_1.length : Int)) && decide ((l0_1.length : Int) ≤ 10)) = true
 case neg =>
  replace h2 := Bool.eq_false_iff.mpr h2; (have h2' : (decide (1 ≤ l0_1.length) && decide (l0_1.length ≤ 10)) = false := by rw [← h2]; congr 1 <;> (apply decide_eq_decide.mpr; omega)); (obtain rfl : r = false := by rw [← hb0, h2']; rfl); have H1 := Aside0.mk h1; have H2 := Aside0.mk h2; clear h1 h2 hb0 h1' h2'; go_enter Try.func47, Try.ntmps47; (go_wp2_with (first | ((with_reducible refine gate_dst (N := 1) rfl ?_); refine box_event ?hg (N := 1) ?hd (cs := #[.slice A0_0 l0_0.length c0_0, .slice A0_1 l0_1.length c0_1]) (t := 25) ?hr ?_; (case hd => rfl); (case hg => rfl); (case hr => first | (go_simp; done) | (go_simp; rfl)); intro gb hg w8 hbox hb; have HBX := Aside0.mk (show TBox w8 gb A0_0 l0_0.length c0_0 A0_1 l0_1.length c0_1 from hbox); have HB := Aside0.mk hb; have hcz0 : w8.cell? ⟨gb, 0, none⟩ = some (.slice A0_0 l0_0.length c0_0) := (blk_cell hbox 0).trans rfl; have hcz1 : w8.cell? ⟨gb, 1, none⟩ = some (.slice A0_1 l0_1.length c0_1) := (blk_cell hbox 1).trans rfl; clear hbox hb hg) | (go_at_call 72; (with_reducible refine (cool_in.calls (l0_0.length : Int) 1 6 true _ ?s1).mono ?_); (case s1 => exact (cool_in_f _ _ _).trans (congrArg some H1.out)); rintro e w9 ⟨rfl, ⟨nd, rfl⟩⟩) | (go_at_call 72; (with_reducible refine (cool_in.calls (l0_1.length : Int) 1 10 false _ ?s2).mono ?_); (case s2 => exact (cool_in_f _ _ _).trans (congrArg some H2.out)); rintro e w9 ⟨rfl, ⟨nd, rfl⟩⟩))); go_ret; exact ⟨rfl, pw_below_drewN HB.out _⟩
 case pos =>
 (have h2' : (decide (1 ≤ l0_1.length) && decide (l0_1.length ≤ 10)) = true := by rw [← h2]; congr 1 <;> (apply decide_eq_decide.mpr; omega)); rw [h2', Bool.true_and] at hb0; have H1 := Aside0.mk h1; have H2 := Aside0.mk h2; clear h1 h2 h1' h2'; by_cases h3 : l0_0.all houseB = true
 case neg =>
  replace h3 := Bool.eq_false_iff.mpr h3; (obtain rfl : r = false := by rw [← hb0, h3]; rfl); (have HH := Aside0.mk (show (l0_0.any fun h => !houseB h) = true by rw [any_not, h3]; rfl)); clear h3 hb0; go_enter Try.func47, Try.ntmps47; (go_wp2_with (first | ((with_reducible refine gate_dst (N := 1) rfl ?_); refine box_event ?hg (N := 1) ?hd (cs := #[.slice A0_0 l0_0.length c0_0, .slice A0_1 l0_1.length c0_1]) (t := 25) ?hr ?_; (case hd => rfl); (case hg => rfl); (case hr => first | (go_simp; done) | (go_simp; rfl)); intro gb hg w8 hbox hb; have HBX := Aside0.mk (show TBox w8 gb A0_0 l0_0.length c0_0 A0_1 l0_1.length c0_1 from hbox); have HB := Aside0.mk hb; have hcz0 : w8.cell? ⟨gb, 0, none⟩ = some (.slice A0_0 l0_0.length c0_0) := (blk_cell hbox 0).trans rfl; have hcz1 : w8.cell? ⟨gb, 1, none⟩ = some (.slice A0_1 l0_1.length c0_1) := (blk_cell hbox 1).trans rfl; clear hbox hb hg) | (go_at_call 72; (with_reducible refine (cool_in.calls (l0_0.length : Int) 1 6 true _ ?s1).mono ?_); (case s1 => exact (cool_in_f _ _ _).trans (congrArg some H1.out)); rintro e w9 ⟨rfl, ⟨nd, rfl⟩⟩) | (go_at_call 72; (with_reducible refine (cool_in.calls (l0_1.length : Int) 1 10 true _ ?s2).mono ?_); (case s2 => exact (cool_in_f _ _ _).trans (congrArg some H2.out)); rintro e w9 ⟨rfl, ⟨nd, rfl⟩⟩) | (go_at_call 74; (with_reducible refine (cont_house.calls A0_0 c0_0 l0_0 _ ?s3 HM0.out true HH.out).mono ?_); (case s3 => exact Kd.C_drewN (Kd.C_below HR0_0.out HB.out) _); rintro e w9 ⟨rfl, hb9⟩; have HB9 := Aside0.mk (below_step (pw_below_drewN HB.out _) hb9); have HBX9 := Aside0.mk ((HBX.out.drewN _).below hb9); have hcy1 : w9.cell? ⟨gb, 1, none⟩ = some (.slice A0_1 l0_1.length c0_1) := (blk_cell HBX9.out 1).trans rfl; clear hb9))); go_ret; exact ⟨rfl, HB9.out⟩
 case pos =>
  rw [h3, Bool.true_and] at hb0; (have HH := Aside0.mk (show (l0_0.any fun h => !houseB h) = false by rw [any_not, h3]; rfl)); (have HS := Aside0.mk (show (l0_1.any fun h => !siteB l0_0.length h) = !r by rw [any_not, hb0])); clear h3 hb0; go_enter Try.func47, Try.ntmps47; (go_wp2_with (first | ((with_reducible refine gate_dst (N := 1) rfl ?_); refine box_event ?hg (N := 1) ?hd (cs := #[.slice A0_0 l0_0.length c0_0, .slice A0_1 l0_1.length c0_1]) (t := 25) ?hr ?_; (case hd => rfl); (case hg => rfl); (case hr => first | (go_simp; done) | (go_simp; rfl)); intro gb hg w8 hbox hb; have HBX := Aside0.mk (show TBox w8 gb A0_0 l0_0.length c0_0 A0_1 l0_1.length c0_1 from hbox); have HB := Aside0.mk hb; have hcz0 : w8.cell? ⟨gb, 0, none⟩ = some (.slice A0_0 l0_0.length c0_0) := (blk_cell hbox 0).trans rfl; have hcz1 : w8.cell? ⟨gb, 1, none⟩ = some (.slice A0_1 l0_1.length c0_1) := (blk_cell hbox 1).trans rfl; clear hbox hb hg) | (go_at_call 72; (with_reducible refine (cool_in.calls (l0_0.length : Int) 1 6 true _ ?s1).mono ?_); (case s1 => exact (cool_in_f _ _ _).trans (congrArg some H1.out)); rintro e w9 ⟨rfl, ⟨nd, rfl⟩⟩) | (go_at_call 72; (with_reducible refine (cool_in.calls (l0_1.length : Int) 1 10 true _ ?s2).mono ?_); (case s2 => exact (cool_in_f _ _ _).trans (congrArg some H2.out)); rintro e w9 ⟨rfl, ⟨nd, rfl⟩⟩) | (go_at_call 74; (with_reducible refine (cont_house.calls A0_0 c0_0 l0_0 _ ?s3 HM0.out false HH.out).mono ?_); (case s3 => exact Kd.C_drewN (Kd.C_below HR0_0.out HB.out) _); rintro e w9 ⟨rfl, hb9⟩; have HB9 := Aside0.mk (below_step (pw_below_drewN HB.out _) hb9); have HBX9 := Aside0.mk ((HBX.out.drewN _).below hb9); have hcy1 : w9.cell? ⟨gb, 1, none⟩ = some (.slice A0_1 l0_1.length c0_1) := (blk_cell HBX9.out 1).trans rfl; clear hb9) | (go_at_call 77; (with_reducible refine (cont_site.calls A0_1 c0_1 l0_1 gb A0_0 l0_0.length c0_0 A0_1 l0_1.length c0_1 _ ?s4 HBX9.out HM0.out HM1.out (!r) HS.out).mono ?_); (case s4 => exact Kd.C_below HR0_1.out HB9.out); rintro e w10 ⟨rfl, hb10⟩; have HB10 := Aside0.mk (below_step HB9.out hb10)))); go_ret; exact ⟨rfl, HB10.out⟩
end Go.Proofs.Ytmkdllaagaimlaa.C
end
section
namespace Go.Proofs.Ytmkdllaagaimlaa.C
open Go.RowKit Go.Proofs.YtmkdllaagaimlaaW.PrintWords Go.Proofs.YtmkdllaagaimlaaW.PrintLast Go.Proofs.YtmkdllaagaimlaaW.PrintMore
set_option linter.unusedVariables false
set_option linter.unusedSimpArgs false
set_option maxHeartbeats 1000000 in
set_option maxRecDepth 100000 in
theorem len64_small (n : Nat) (hn : n ≤ 10) (w : World) : Calls Try.prog 114 #[.int .u64 n] w fun e w' => (∃ l : Int, e = .returned (.int .i64 l)) ∧ w' = w := by
 rcases (by omega : n = 0 ∨ n = 1 ∨ n = 2 ∨ n = 3 ∨ n = 4 ∨ n = 5 ∨ n = 6 ∨ n = 7 ∨ n = 8 ∨ n = 9 ∨ n = 10) with rfl | rfl | rfl | rfl | rfl | rfl | rfl | rfl | rfl | rfl | rfl
 all_goals
  go_enter Try.func114, Try.ntmps114; go_wp2; go_ret; exact ⟨⟨_, rfl⟩, rfl⟩
theorem len_small (n : Nat) (hn : n ≤ 10) (w : World) : Calls Try.prog 104 #[.int .u64 n] w fun e w' => (∃ l : Int, e = .returned (.int .i64 l)) ∧ w = w' := by
 go_enter Try.func104, Try.ntmps104; go_wp2_with (go_at_call 114; refine (len64_small n hn _).mono ?_; rintro e w' ⟨⟨l, rfl⟩, rfl⟩); go_ret; exact ⟨⟨_, rfl⟩, rfl⟩
def cmpI (a b : Int) : Int := if a < b then -1 else if b < a then 1 else 0
theorem cmp_f (a b : Int) : cmp_Compare_int.f a b = some (cmpI a b) := by
 unfold cmp_Compare_int.f cmp_isNaN_int.f cmpI; simp only [bne_self_eq_false, Option.bind_some, Bool.false_eq_true, if_false]; by_cases h1 : a < b
 · rw [if_pos h1, if_pos h1]
 · rw [if_neg h1, if_neg h1]; by_cases h2 : b < a
   · rw [if_pos h2, if_pos h2]
   · rw [if_neg h2, if_neg h2]
theorem cmp_s (a b : Int) : cool_sorted_int_1.f a b = some (cmpI b a) := by
 unfold cool_sorted_int_1.f; rw [cmp_f]; rfl
def ins : List Int → Nat → List Int
  | l, 0 => l
  | l, j + 1 => if l.getD j 0 < l.getD (j + 1) 0 then ins ((l.set (j + 1) (l.getD j 0)).set j (l.getD (j + 1) 0)) j else l
def isort : List Int → Nat → Nat → List Int
  | l, _, 0 => l
  | l, i, k + 1 => isort (ins l i) (i + 1) k
theorem ins_length (l : List Int) (j : Nat) : (ins l j).length = l.length := by
 induction j generalizing l with
 | zero => rfl
 | succ j ih =>
  unfold ins; split
  · rw [ih]; simp
  · rfl
def sw.T : Bool × List (List Nat × List Nat) := (true, [([], []), ([], []), ([], []), ([], []), ([3], [3]), ([], []), ([], []), ([6], [6]), ([5, 7], [5, 7]), ([8], [8]), ([], []), ([], []), ([10, 11], [10, 11]), ([12], [12]), ([0, 1, 0, 1, 5, 6, 7, 8, 9, 13], [0, 1]), ([14, 9, 0, 1, 5, 6, 7, 8, 9, 13], [9, 14]), ([2, 4, 0, 1, 2, 3, 4, 5, 6, 7, 8, 9, 10, 11, 12, 13, 14, 15], [2, 4]), ([16, 13, 15, 0, 1, 2, 3, 4, 5, 6, 7, 8, 9, 10, 11, 12, 13, 14, 15], [13, 16])])
def sw.B : List Nat := [0, 0, 0, 0, 8, 0, 0, 64, 224, 480, 0, 0, 3072, 7168, 16355, 32739, 65535, 131071]
theorem sw.tab : rtab .any (opsOf Try.f105 6) = sw.T := by kernel_rfl
theorem sw.bits : waitsOk sw.T.2 sw.B = true := by kernel_rfl
theorem grown_drewN {w w' : World} {r : Option Nat} (h : w.grownBy w' r) (n : Nat) : w.grownBy (w'.drewN n) r := ⟨h.os, h.tape, h.output, h.size, h.block⟩
theorem grown_drew {w w' : World} {r : Option Nat} (h : w.grownBy w' r) : w.grownBy w'.drew r := ⟨h.os, h.tape, h.output, h.size, h.block⟩
set_option maxHeartbeats 2000000 in
set_option maxRecDepth 100000 in
theorem insertion.calls (g n cap : Nat) (xs : List Int) (base : Nat) (ok : Nat → Prop) (w : World) (hn : xs.length = n) (hm : n ≤ 10) (hR : Kd.R (Kd.int .i64) 3 w base ok (.slice (some ⟨g, 0, none⟩) n cap) xs) :
    Calls Try.prog 105 #[.slice (some ⟨g, 0, none⟩) n cap, .int .i64 0, .int .i64 n, .func (.func 101) #[] #[]] w fun e w' => e = .returned (.tuple #[]) ∧ Kd.R (Kd.int .i64) 3 w' base ok (.slice (some ⟨g, 0, none⟩) n cap) (isort xs 1 (n - 1)) ∧ w.grownBy w' (some g) := by
 have HR := Aside0.mk hR; have HN := Aside0.mk hn; clear hR hn; go_enter Try.func105, Try.ntmps105; go_wp2; (go_loopg [8, 9] (n + 1) (fun kq v8 v9 w' => ∃ (i : Nat) (l : List Int), v8 = .int .i64 i ∧ Aside0 (1 ≤ i ∧ i ≤ n + 1 ∧ i + kq = n + 2 ∧ l.length = n ∧ isort l i (n - i) = isort xs 1 (n - 1)) ∧ Aside0 (Kd.R (Kd.int .i64) 3 w' base ok (.slice (some ⟨g, 0, none⟩) n cap) l) ∧ Aside0 (w.grownBy w' (some g)))); (case atStart => exact ⟨1, xs, rfl, ⟨by omega, by omega, by omega, HN.out, rfl⟩, HR, ⟨World.grownBy.refl _ _⟩⟩)
 case round =>
  obtain ⟨i, l, rfl, HI, HL, HG⟩ := hrel; by_cases hi : i < n
  · (have hd : decide ((i : Int) < (n : Int)) = true := decide_eq_true (by omega)); go_wp2; (go_loopg [9] (i + 1) (fun kq v9 w' => ∃ (j : Nat) (l2 : List Int), v9 = .int .i64 j ∧ Aside0 (j ≤ i ∧ kq = j + 1 ∧ l2.length = n ∧ ins l2 j = ins l i) ∧ Aside0 (Kd.R (Kd.int .i64) 3 w' base ok (.slice (some ⟨g, 0, none⟩) n cap) l2) ∧ Aside0 (w.grownBy w' (some g)))); (case atStart => exact ⟨i, l, rfl, ⟨by omega, by omega, HI.out.2.2.2.1, rfl⟩, HL, HG⟩)
    case round =>
     clear HL HG; obtain ⟨j, l2, rfl, HJ, HL, HG⟩ := hrel; (rcases Nat.eq_zero_or_pos j with hj | hj)
     · subst hj; go_wp2_with fail; go_quiet (fail); go_wp2; go_roundg (n + 1 - i); (case measure => have := HI.out; omega)
       case rel =>
        refine ⟨i + 1, l2, by go_num, ⟨by omega, by omega, by have := HI.out; omega, HJ.out.2.2.1, ?_⟩, ?_, ?_⟩
        · have h1 := HI.out.2.2.2.2; have h2 := HJ.out.2.2.2; (rw [← h1, show n - i = (n - (i + 1)) + 1 by omega, isort, ← h2]; rfl)
        · exact ⟨Kd.R_drewN HL.out _⟩
        · exact ⟨grown_drewN HG.out _⟩
     · (obtain ⟨m, rfl⟩ : ∃ m, j = m + 1 := ⟨j - 1, by omega⟩); (have hjn : m + 1 < n := by have := HJ.out; omega); (obtain ⟨hc0, hf0⟩ := Kd.R_celln (0 : Int) HL.out (m : Int) (by omega) (by omega)); (obtain ⟨hc1, hf1⟩ := Kd.R_celln (0 : Int) HL.out ((m : Int) + 1) (by omega) (by omega)); (have e1 : ((m : Int) + 1).toNat = m + 1 := by omega); rw [e1] at hc1 hf1; simp only [Int.toNat_natCast] at hc0 hf0; obtain ⟨x, hx⟩ : ∃ x, rdOf (0 : Int) l2 (m : Int) = x := ⟨_, rfl⟩; obtain ⟨y, hy⟩ : ∃ y, rdOf (0 : Int) l2 ((m : Int) + 1) = y := ⟨_, rfl⟩; rw [hx] at hc0; rw [hy] at hc1; (have hx' : l2.getD m 0 = x := by rw [← hx]; simp [rdOf]); (have hy' : l2.getD (m + 1) 0 = y := by rw [← hy]; simp [rdOf, e1]); have HX := Aside0.mk (And.intro hx' hy'); clear hx hy hx' hy' e1; (have ej : ((m + 1 : Nat) : Int) = (m : Int) + 1 := by omega); rw [ej]; clear ej; (have hm1 : (m : Int) + 1 < (n : Int) := by omega); by_cases hlt : x < y
       · (have hcp := Aside0.mk ((cmp_s y x).trans (congrArg some (show cmpI x y = -1 by unfold cmpI; rw [if_pos hlt])))); have HXY := Aside0.mk hlt; clear hlt hj; go_wp2_with fail; (go_quiet ((go_at_call 101; (with_reducible refine (cool_sorted_int_1.calls y x (-1) _ hcp.out).mono ?_); rintro e w' ⟨rfl, ⟨nd, rfl⟩⟩; exact ⟨rfl, _, World.drewN_drewN _ _ _⟩))); go_wp2; (refine start_ (n := 18) (S := fun w' => w'.cell? ⟨g, m, none⟩ = some (.int .i64 x) ∧ w'.cell? ⟨g, m + 1, none⟩ = some (.int .i64 y)) (ds := [15, 17]) #[false, false, false, false, false, false, false, false, false, false, false, false, false, false, false, false, false, false] (by kernel_rfl) rfl rfl ⟨hc0, hc1⟩ (fun hHeld => ?_); refine with_tabW sw.tab sw.bits (fun HT_ HW_ => ?_)); have HL9 := Aside0.mk (Kd.R_drew (Kd.R_drewN HL.out nq)); have HG9 := Aside0.mk (grown_drew (grown_drewN HG.out nq)); generalize (wr.drewN nq).drew = w9 at HL9 HG9 hHeld ⊢; clear hc0 hc1 hf0 hf1 HL HG; (have hwm : wrap64 (m : Int) = m := by unfold wrap64; omega); (have hmn : m < n := by omega); (have hm00 : (0 : Int) ≤ (m : Int) + 1 := by omega); (refine pure_ (i := 0) (N := some 37) (v := ?_) (a' := ?_) #[true, false, false, false, false, false, false, false, false, false, false, false, false, false, false, false, false, false] rfl rfl (any_of HT_.out (by kernel_rfl)) (fun _ _ _ h => h) (Or.inl ⟨by rfl, ?_⟩) ?_ ?_); rotate_left
         · intro w'; go_simp; (with_reducible rfl)
         rotate_left
         · simp only [Act.put, List.setIfInBounds_toArray, List.set_cons_zero, List.set_cons_succ, i64_w, i32_w]; rfl
         (refine pure_ (i := 1) (N := some 38) (v := ?_) (a' := ?_) #[true, true, false, false, false, false, false, false, false, false, false, false, false, false, false, false, false, false] rfl rfl (any_of HT_.out (by kernel_rfl)) (fun _ _ _ h => h) (Or.inl ⟨by rfl, ?_⟩) ?_ ?_); rotate_left
         · intro w'; go_simp; (with_reducible rfl)
         rotate_left
         · simp only [Act.put, List.setIfInBounds_toArray, List.set_cons_zero, List.set_cons_succ, i64_w, i32_w]; rfl
         (refine pure_ (i := 2) (N := some 39) (v := ?_) (a' := ?_) #[true, true, true, false, false, false, false, false, false, false, false, false, false, false, false, false, false, false] rfl rfl (any_of HT_.out (by kernel_rfl)) (fun _ _ _ h => h) (Or.inl ⟨by rfl, ?_⟩) ?_ ?_); rotate_left
         · intro w'; go_simp; (with_reducible rfl)
         rotate_left
         · simp only [Act.put, List.setIfInBounds_toArray, List.set_cons_zero, List.set_cons_succ, i64_w, i32_w]; rfl
         (refine pure_ (i := 3) (N := some 40) (v := ?_) (a' := ?_) #[true, true, true, true, false, false, false, false, false, false, false, false, false, false, false, false, false, false] rfl rfl (any_of HT_.out (by kernel_rfl)) (fun _ _ _ h => h) (Or.inl ⟨by rfl, ?_⟩) ?_ ?_); rotate_left
         · intro w'; go_simp; (with_reducible rfl)
         rotate_left
         · simp only [Act.put, List.setIfInBounds_toArray, List.set_cons_zero, List.set_cons_succ, i64_w, i32_w]; rfl
         (refine pure_ (i := 4) (N := some 41) (v := ?_) (a' := ?_) #[true, true, true, true, true, false, false, false, false, false, false, false, false, false, false, false, false, false] rfl rfl (any_of HT_.out (by kernel_rfl)) (fun _ _ _ h => h) (Or.inl ⟨by rfl, ?_⟩) ?_ ?_); rotate_left
         · intro w'; go_simp; (with_reducible rfl)
         rotate_left
         · simp only [Act.put, List.setIfInBounds_toArray, List.set_cons_zero, List.set_cons_succ, i64_w, i32_w, hwm]; rfl
         (refine pure_ (i := 5) (N := some 42) (v := ?_) (a' := ?_) #[true, true, true, true, true, true, false, false, false, false, false, false, false, false, false, false, false, false] rfl rfl (any_of HT_.out (by kernel_rfl)) (fun _ _ _ h => h) (Or.inl ⟨by rfl, ?_⟩) ?_ ?_); rotate_left
         · intro w'; go_simp; (with_reducible rfl)
         rotate_left
         · simp only [Act.put, List.setIfInBounds_toArray, List.set_cons_zero, List.set_cons_succ, i64_w, i32_w]; rfl
         (refine pure_ (i := 6) (N := some 43) (v := ?_) (a' := ?_) #[true, true, true, true, true, true, true, false, false, false, false, false, false, false, false, false, false, false] rfl rfl (any_of HT_.out (by kernel_rfl)) (fun _ _ _ h => h) (Or.inl ⟨by rfl, ?_⟩) ?_ ?_); rotate_left
         · intro w'; go_simp; (with_reducible rfl)
         rotate_left
         · simp only [Act.put, List.setIfInBounds_toArray, List.set_cons_zero, List.set_cons_succ, i64_w, i32_w]; rfl
         (refine pure_ (i := 7) (N := some 44) (v := ?_) (a' := ?_) #[true, true, true, true, true, true, true, true, false, false, false, false, false, false, false, false, false, false] rfl rfl (any_of HT_.out (by kernel_rfl)) (fun _ _ _ h => h) (Or.inl ⟨by rfl, ?_⟩) ?_ ?_); rotate_left
         · intro w'; go_simp; (with_reducible rfl)
         rotate_left
         · simp only [Act.put, List.setIfInBounds_toArray, List.set_cons_zero, List.set_cons_succ, i64_w, i32_w, hwm]; rfl
         (refine pure_ (i := 8) (N := some 45) (v := ?_) (a' := ?_) #[true, true, true, true, true, true, true, true, true, false, false, false, false, false, false, false, false, false] rfl rfl (any_of HT_.out (by kernel_rfl)) (fun _ _ _ h => h) (Or.inl ⟨by rfl, ?_⟩) ?_ ?_); rotate_left
         · intro w'; go_simp; (with_reducible rfl)
         rotate_left
         · simp only [Act.put, List.setIfInBounds_toArray, List.set_cons_zero, List.set_cons_succ, i64_w, i32_w]; rfl
         (refine pure_ (i := 10) (N := some 47) (v := ?_) (a' := ?_) #[true, true, true, true, true, true, true, true, true, false, true, false, false, false, false, false, false, false] rfl rfl (any_of HT_.out (by kernel_rfl)) (fun _ _ _ h => h) (Or.inl ⟨by rfl, ?_⟩) ?_ ?_); rotate_left
         · intro w'; go_simp; (with_reducible rfl)
         rotate_left
         · simp only [Act.put, List.setIfInBounds_toArray, List.set_cons_zero, List.set_cons_succ, i64_w, i32_w]; rfl
         (refine pure_ (i := 11) (N := some 48) (v := ?_) (a' := ?_) #[true, true, true, true, true, true, true, true, true, false, true, true, false, false, false, false, false, false] rfl rfl (any_of HT_.out (by kernel_rfl)) (fun _ _ _ h => h) (Or.inl ⟨by rfl, ?_⟩) ?_ ?_); rotate_left
         · intro w'; go_simp; (with_reducible rfl)
         rotate_left
         · simp only [Act.put, List.setIfInBounds_toArray, List.set_cons_zero, List.set_cons_succ, i64_w, i32_w]; rfl
         (refine pure_ (i := 12) (N := some 49) (v := ?_) (a' := ?_) #[true, true, true, true, true, true, true, true, true, false, true, true, true, false, false, false, false, false] rfl rfl (any_of HT_.out (by kernel_rfl)) (fun _ _ _ h => h) (Or.inl ⟨by rfl, ?_⟩) ?_ ?_); rotate_left
         · intro w'; go_simp; (with_reducible rfl)
         rotate_left
         · simp only [Act.put, List.setIfInBounds_toArray, List.set_cons_zero, List.set_cons_succ, i64_w, i32_w]; rfl
         (refine take_ (i := 9) (N := some 46) (v := ?_) (a' := ?_) #[true, true, true, true, true, true, true, true, true, true, true, true, true, false, false, false, false, false] rfl rfl (take_ofW HT_.out HW_.out (by kernel_rfl)) (fun _ _ _ h => h) (Or.inl ⟨by rfl, ?_⟩) hHeld ?_ ?_); rotate_left
         · rintro w' ⟨s0, s1⟩; go_simp; (with_reducible rfl)
         rotate_left
         · simp only [Act.put, List.setIfInBounds_toArray, List.set_cons_zero, List.set_cons_succ, i64_w, i32_w]; rfl
         (refine take_ (i := 13) (N := some 50) (v := ?_) (a' := ?_) #[true, true, true, true, true, true, true, true, true, true, true, true, true, true, false, false, false, false] rfl rfl (take_ofW HT_.out HW_.out (by kernel_rfl)) (fun _ _ _ h => h) (Or.inl ⟨by rfl, ?_⟩) hHeld ?_ ?_); rotate_left
         · rintro w' ⟨s0, s1⟩; go_simp; (with_reducible rfl)
         rotate_left
         · simp only [Act.put, List.setIfInBounds_toArray, List.set_cons_zero, List.set_cons_succ, i64_w, i32_w]; rfl
         (refine pure_ (i := 14) (N := some 51) (v := ?_) (a' := ?_) #[true, true, true, true, true, true, true, true, true, true, true, true, true, true, true, false, false, false] rfl rfl (any_of HT_.out (by kernel_rfl)) (fun _ _ _ h => h) (Or.inl ⟨by rfl, ?_⟩) ?_ ?_); rotate_left
         · intro w'; go_simp; (with_reducible rfl)
         rotate_left
         · simp only [Act.put, List.setIfInBounds_toArray, List.set_cons_zero, List.set_cons_succ, i64_w, i32_w]; rfl
         (obtain ⟨hc1, hf1⟩ := Kd.R_celln (0 : Int) HL9.out ((m : Int) + 1) (by omega) (by omega)); have HLA := Aside0.mk (Kd.R_putg HL9.out ((m : Int) + 1) x); (have e1 : ((m : Int) + 1).toNat = m + 1 := by omega); rw [e1] at hc1 hf1 HLA; (obtain ⟨hc0, hf0⟩ := Kd.R_celln (0 : Int) HLA.out.1 (m : Int) (by omega) (by omega)); have HLB := Aside0.mk (Kd.R_putg HLA.out.1 (m : Int) y); simp only [Int.toNat_natCast] at hc0 hf0 HLB; clear e1; clear hwm; (refine last_ (i := 15) (N := none) #[true, true, true, true, true, true, true, true, true, true, true, true, true, true, true, true, false, false] rfl rfl (one_of HT_.out (by kernel_rfl)) (by decide) (fun K hK => ?_)); (refine skip_ (w1 := w9.setCell ⟨g, m + 1, none⟩ (.int .i64 x)) (by rfl) rfl (by go_simp) ?_); refine hK.out _ _ ?_; clear hK K; generalize w9.setCell ⟨g, m + 1, none⟩ (.int .i64 x) = w10 at HLA HLB hc0 hf0 ⊢; (refine pure_ (i := 16) (N := some 52) (v := ?_) (a' := ?_) #[true, true, true, true, true, true, true, true, true, true, true, true, true, true, true, true, true, false] rfl rfl (any_of HT_.out (by kernel_rfl)) (fun _ _ _ h => h) (Or.inl ⟨by rfl, ?_⟩) ?_ ?_); rotate_left
         · intro w'; go_simp; (with_reducible rfl)
         rotate_left
         · simp only [Act.put, List.setIfInBounds_toArray, List.set_cons_zero, List.set_cons_succ, i64_w, i32_w]; rfl
         (refine last_ (i := 17) (N := none) #[true, true, true, true, true, true, true, true, true, true, true, true, true, true, true, true, true, true] rfl rfl (one_of HT_.out (by kernel_rfl)) (by decide) (fun K hK => ?_)); (refine skip_ (w1 := w10.setCell ⟨g, m, none⟩ (.int .i64 y)) (by rfl) rfl (by go_simp) ?_); refine hK.out _ _ ?_; clear hK K; (refine done_ (done_of HT_.out (by kernel_rfl)) ?_); go_wp2; go_roundg (m + 1); (case measure => have := HJ.out; omega)
         case rel =>
          refine ⟨m, (l2.set (m + 1) x).set m y, by go_num, ⟨by have := HJ.out; omega, by have := HJ.out; omega, by simp; exact HJ.out.2.2.1, ?_⟩, ?_, ?_⟩
          · rw [← HJ.out.2.2.2, ins, HX.out.1, HX.out.2, if_pos HXY.out]
          · exact ⟨HLB.out.1⟩
          · exact ⟨World.grownBy.trans (World.grownBy.trans HG9.out HLA.out.2) HLB.out.2⟩
       · (have hcv : 0 ≤ cmpI x y := by unfold cmpI; rw [if_neg hlt]; split <;> decide); obtain ⟨cv, hcv'⟩ : ∃ cv, cmpI x y = cv := ⟨_, rfl⟩; rw [hcv'] at hcv; have hcp := Aside0.mk ((cmp_s y x).trans (congrArg some hcv')); have HXY := Aside0.mk hlt; (have hcd : decide (cv < 0) = false := decide_eq_false (by omega)); clear hlt hj hcv'; go_wp2_with fail; (go_quiet ((go_at_call 101; (with_reducible refine (cool_sorted_int_1.calls y x cv _ hcp.out).mono ?_); rintro e w' ⟨rfl, ⟨nd, rfl⟩⟩; exact ⟨rfl, _, World.drewN_drewN _ _ _⟩))); go_wp2; go_roundg (n + 1 - i); (case measure => have := HI.out; omega)
         case rel =>
          refine ⟨i + 1, l2, by go_num, ⟨by omega, by omega, by have := HI.out; omega, HJ.out.2.2.1, ?_⟩, ?_, ?_⟩
          · have h1 := HI.out.2.2.2.2; have h2 := HJ.out.2.2.2; (rw [← h1, show n - i = (n - (i + 1)) + 1 by omega, isort, ← h2, ins, HX.out.1, HX.out.2, if_neg (show ¬ x < y by have := HXY.out; omega)])
          · exact ⟨Kd.R_drewN HL.out _⟩
          · exact ⟨grown_drewN HG.out _⟩
  · (have hd : decide ((i : Int) < (n : Int)) = false := decide_eq_false (by omega)); go_wp2; go_end0; refine ⟨rfl, ?_, HG.out⟩; have h := HI.out; (obtain rfl | hi' : i = n ∨ i = n + 1 := by omega)
    · rw [← h.2.2.2.2, Nat.sub_self]; exact HL.out
    · rw [← h.2.2.2.2, hi', show n - (n + 1) = 0 by omega]; exact HL.out
end Go.Proofs.Ytmkdllaagaimlaa.C
end
section
namespace Go.Proofs.Ytmkdllaagaimlaa.C
open Go.RowKit Go.Proofs.YtmkdllaagaimlaaW.PrintWords Go.Proofs.YtmkdllaagaimlaaW.PrintLast Go.Proofs.YtmkdllaagaimlaaW.PrintMore
set_option linter.unusedVariables false
set_option linter.unusedSimpArgs false
set_option maxHeartbeats 1000000 in
set_option maxRecDepth 100000 in
theorem insertion_nil (A : Option Addr) (c : Nat) (w : World) :
    Calls Try.prog 105 #[.slice A 0 c, .int .i64 0, .int .i64 0, .func (.func 101) #[] #[]] w fun e w' => e = .returned (.tuple #[]) ∧ w = w' := by
 go_enter Try.func105, Try.ntmps105; go_wp2; refine wp_loop_once ?_; go_wp2; go_end0; exact ⟨rfl, rfl⟩
set_option maxHeartbeats 1000000 in
set_option maxRecDepth 100000 in
theorem pdq_nil (A : Option Addr) (c : Nat) (l : Int) (w : World) :
    Calls Try.prog 103 #[.slice A 0 c, .int .i64 0, .int .i64 0, .int .i64 l, .func (.func 101) #[] #[]] w fun e w' => e = .returned (.tuple #[]) ∧ w = w' := by
 go_enter Try.func103, Try.ntmps103; go_wp2; refine wp_loop_once ?_; go_wp2_with (go_at_call 105; refine (insertion_nil A c _).mono ?_; rintro e w' ⟨rfl, rfl⟩); (first | go_end0 | refine bodyPost_ret (results_none rfl _ _ _) rfl ?_); exact ⟨rfl, rfl⟩
set_option maxHeartbeats 1000000 in
set_option maxRecDepth 100000 in
theorem pdq.calls (g n cap : Nat) (xs : List Int) (base : Nat) (ok : Nat → Prop) (l : Int) (w : World) (hn : xs.length = n) (hm : n ≤ 10) (hR : Kd.R (Kd.int .i64) 3 w base ok (.slice (some ⟨g, 0, none⟩) n cap) xs) :
    Calls Try.prog 103 #[.slice (some ⟨g, 0, none⟩) n cap, .int .i64 0, .int .i64 n, .int .i64 l, .func (.func 101) #[] #[]] w fun e w' => e = .returned (.tuple #[]) ∧ Kd.R (Kd.int .i64) 3 w' base ok (.slice (some ⟨g, 0, none⟩) n cap) (isort xs 1 (n - 1)) ∧ w.grownBy w' (some g) := by
 have HR := Aside0.mk hR; have HN := Aside0.mk hn; clear hR hn; (have h12 : decide ((n : Int) ≤ 12) = true := decide_eq_true (by omega)); go_enter Try.func103, Try.ntmps103; go_wp2; refine wp_loop_once ?_; (go_wp2_with (go_at_call 105; (with_reducible refine (insertion.calls g n cap xs base ok _ HN.out hm HR.out).mono ?_); rintro e w' ⟨rfl, hr, hg⟩)); (first | go_end0 | refine bodyPost_ret (results_none rfl _ _ _) rfl ?_); exact ⟨rfl, hr, hg⟩
def isorted (xs : List Int) : List Int := isort xs 1 (xs.length - 1)
set_option maxHeartbeats 1000000 in
set_option maxRecDepth 100000 in
theorem sortF.calls (v : Value) (xs : List Int) (base : Nat) (ok : Nat → Prop) (w : World) (hm : xs.length ≤ 10) (hR : Kd.R (Kd.int .i64) 3 w base ok v xs) :
    Calls Try.prog 100 #[v, .func (.func 101) #[] #[]] w fun e w' => e = .returned (.tuple #[]) ∧ Kd.R (Kd.int .i64) 3 w' base ok v (isorted xs) ∧ w.grownBy w' v.ownBlock := by
 rcases Nat.eq_zero_or_pos xs.length with h0 | h0
 · obtain ⟨A, c, rfl, hc, _⟩ := Kd.R_reads hR; have hx : xs = [] := List.eq_nil_of_length_eq_zero h0; subst hx; have HR := Aside0.mk hR; clear hR h0 hm hc; go_enter Try.func100, Try.ntmps100; (go_wp2_with (first | (go_at_call 104; refine (len_small 0 (by omega) _).mono ?_; rintro e w' ⟨⟨l, rfl⟩, rfl⟩) | (go_at_call 103; refine (pdq_nil A c _ _).mono ?_; rintro e w' ⟨rfl, rfl⟩))); go_end0; exact ⟨rfl, HR.out, World.grownBy.refl _ _⟩
 · obtain ⟨inner, ho⟩ := Kd.R_own hR; obtain ⟨g, cap, rfl, _, _⟩ := ho.form h0; obtain ⟨n, hn⟩ : ∃ n, xs.length = n := ⟨_, rfl⟩; rw [hn] at hR hm h0 ⊢; have HR := Aside0.mk hR; have HN := Aside0.mk hn; clear hR hn h0 ho; go_enter Try.func100, Try.ntmps100; (go_wp2_with (first | (go_at_call 104; refine (len_small n hm _).mono ?_; rintro e w' ⟨⟨l, rfl⟩, rfl⟩) | (go_at_call 103; (with_reducible refine (pdq.calls g n cap xs base ok _ _ HN.out hm HR.out).mono ?_); rintro e w' ⟨rfl, hr, hg⟩))); go_end0; refine ⟨rfl, ?_, hg⟩; unfold isorted; rw [HN.out]; exact hr
end Go.Proofs.Ytmkdllaagaimlaa.C
end
section
namespace Go.Proofs.Ytmkdllaagaimlaa.C
open Go.RowKit Go.Proofs.YtmkdllaagaimlaaW.PrintWords Go.Proofs.YtmkdllaagaimlaaW.PrintLast Go.Proofs.YtmkdllaagaimlaaW.PrintMore
set_option linter.unusedVariables false
set_option linter.unusedSimpArgs false
def Bo (w : World) (B : Nat) (A0 : Option Addr) (n0 c0 : Nat) (A1 : Option Addr) (n1 c1 : Nat) (C : Int) (M : Nat) : Prop := w.heap[B]? = some (.cells #[.slice A0 n0 c0, .slice A1 n1 c1, .int .i64 C, .map (some M)] 94 (0, 0))
theorem Bo.below {w w' : World} {B : Nat} {A0 A1 : Option Addr} {n0 c0 n1 c1 : Nat} {C : Int} {M : Nat} (h : Bo w B A0 n0 c0 A1 n1 c1 C M) (hb : Below w.heap.size w w') : Bo w' B A0 n0 c0 A1 n1 c1 C M := blk_below h hb
theorem Bo.drewN {w : World} {B : Nat} {A0 A1 : Option Addr} {n0 c0 n1 c1 : Nat} {C : Int} {M : Nat} (h : Bo w B A0 n0 c0 A1 n1 c1 C M) (n : Nat) : Bo (w.drewN n) B A0 n0 c0 A1 n1 c1 C M := blk_drewN h n
def Vr (w : World) (B : Nat) (t : Nat) (v : Value) : Prop := w.heap[B]? = some (.cells #[v] t (0, 0))
theorem Vr.below {w w' : World} {B t : Nat} {v : Value} (h : Vr w B t v) (hb : Below w.heap.size w w') : Vr w' B t v := blk_below h hb
theorem Vr.cell {w : World} {B t : Nat} {v : Value} (h : Vr w B t v) : w.cell? ⟨B, 0, none⟩ = some v := (blk_cell h 0).trans rfl
theorem Vr.frozen {w : World} {B t : Nat} {v : Value} (h : Vr w B t v) : w.frozen? ⟨B, 0, none⟩ = false := blk_frozen h 0
def cold (S : List S64) (h i : Nat) : Int := (rd_T58 (rd_T64 S (i : Int)).f2 (h : Int)).f0
set_option maxHeartbeats 1000000 in
set_option maxRecDepth 100000 in
theorem coldf.calls (S : List S64) (A0 : Option Addr) (n0 c0 : Nat) (A1 : Option Addr) (c1 : Nat) (C : Int) (B M Bb Bh i h : Nat) (w : World) (hS : Kd.C k64 w A1 S.length S) (hB : Bo w B A0 n0 c0 A1 S.length c1 C M) (hb : Vr w Bb 88 (.pointer (some ⟨B, 0, none⟩))) (hh : Vr w Bh 3 (.int .i64 h)) (hi : i < S.length) (hg : h < (rd_T64 S (i : Int)).f2.length) :
    Calls Try.prog 87 #[.int .i64 i, .pointer (some ⟨Bb, 0, none⟩), .pointer (some ⟨Bh, 0, none⟩)] w fun e w' => e = .returned (.int .i64 (cold S h i)) ∧ Drawn0 w w' := by
 (obtain ⟨ad, A2, c2, e, _, _, hx2, hl2, hr2⟩ := at_T64 hS (i : Int) (by omega) (by omega)); subst e; (obtain ⟨ad2, e2, hy0, _⟩ := at_T58 hr2 (h : Int) (by omega) (by omega)); subst e2; have hb0 := hb.cell; have hh0 := hh.cell; have hB1 : w.cell? ⟨B, 1, none⟩ = some (.slice (some ad) S.length c1) := (blk_cell hB 1).trans rfl; simp only [Int.toNat_natCast] at hx2 hy0; obtain ⟨y, hy⟩ : ∃ y, cold S h i = y := ⟨_, rfl⟩; (have hy0' : w.cell? (ad2.add (h * 2)) = some (.int .i64 y) := by rw [← hy]; exact hy0); obtain ⟨n2, hn2⟩ : ∃ n, (rd_T64 S (i : Int)).f2.length = n := ⟨_, rfl⟩; rw [hn2] at hx2 hg; rw [hy]; clear hS hr2 hl2 hB hb hh hy0 hy hn2; (have hi' : (i : Int) < (S.length : Int) := by omega); (have hg' : (h : Int) < (n2 : Int) := by omega); go_enter Try.func87, Try.ntmps87; go_wp2; go_quiet (fail); go_wp2; go_ret; exact ⟨rfl, ⟨⟨_, rfl⟩⟩⟩
end Go.Proofs.Ytmkdllaagaimlaa.C
end
section
namespace Go.Proofs.Ytmkdllaagaimlaa.C
open Go.RowKit Go.Proofs.YtmkdllaagaimlaaW.PrintWords Go.Proofs.YtmkdllaagaimlaaW.PrintLast Go.Proofs.YtmkdllaagaimlaaW.PrintMore
set_option linter.unusedVariables false
set_option linter.unusedSimpArgs false
set_option maxHeartbeats 4000000 in
set_option maxRecDepth 100000 in
theorem sorted.calls (S : List S64) (A0 : Option Addr) (n0 c0 : Nat) (A1 : Option Addr) (c1 : Nat) (C : Int) (B M Bb Bh h : Nat) (AL : Option Addr) (cL : Nat) (L : List Int) (w : World) (hL : Kd.C (Kd.int .i64) w AL L.length L) (hcL : L.length ≤ cL) (hS : Kd.C k64 w A1 S.length S) (hB : Bo w B A0 n0 c0 A1 S.length c1 C M) (hb : Vr w Bb 88 (.pointer (some ⟨B, 0, none⟩))) (hh : Vr w Bh 3 (.int .i64 h)) (hm : L.length ≤ 10)
    (hi : ∀ x ∈ L, ∃ i : Nat, x = i ∧ i < S.length ∧ h < (rd_T64 S (i : Int)).f2.length) :
    Calls Try.prog 86 #[.slice AL L.length cL, .func (.func 87) #[] #[.pointer (some ⟨Bb, 0, none⟩), .pointer (some ⟨Bh, 0, none⟩)]] w fun e w' => ∃ v : Value, e = .returned v ∧ Kd.R (Kd.int .i64) 3 w' w.heap.size (fun _ => True) v (isorted (L.map fun x => cold S h x.toNat)) ∧ Below w.heap.size w w' := by
 have HL := Aside0.mk hL; have HS := Aside0.mk hS; have HBo := Aside0.mk hB; have HVb := Aside0.mk hb; have HVh := Aside0.mk hh; have HI := Aside0.mk hi; have HM := Aside0.mk hm; clear hL hcL hS hB hb hh hi hm; go_enter Try.func86, Try.ntmps86; go_wp2; (go_loopg [5, 10] (L.length + 1) (fun kq v5 v10 w' => ∃ (k : Nat), v10 = .int .i64 k ∧ Aside0 (k + kq = L.length + 1) ∧ Aside0 (Kd.R (Kd.int .i64) 3 w' w.heap.size (fun _ => True) v5 ((L.take k).map fun x => cold S h x.toNat)) ∧ Aside0 (Below w.heap.size w w'))); (case atStart => exact ⟨0, rfl, ⟨by omega⟩, ⟨Kd.R_nil _ _ _ _ _⟩, ⟨Below.refl _ _⟩⟩)
 case round =>
  obtain ⟨k, rfl, HK, HO, HB⟩ := hrel; by_cases hk : k < L.length
  · (obtain ⟨ad, e, hx0⟩ := Kd.at_int (Kd.C_below HL.out HB.out) (k : Int) (by omega) (by omega)); subst e; simp only [Int.toNat_natCast] at hx0; (have hmem : L[k]? = some (rd L (k : Int)) := by simp [rd, List.getElem?_eq_getElem hk, List.getD_eq_getElem?_getD]); obtain ⟨i, hxi, hi1, hi2⟩ := HI.out _ (List.mem_of_getElem? hmem); rw [hxi] at hx0 hmem; have HX := Aside0.mk hmem; have HI1 := Aside0.mk hi1; have HI2 := Aside0.mk hi2; (have hd : decide ((k : Int) < (L.length : Int)) = true := decide_eq_true (by omega)); (have hd0 : decide (0 ≤ (k : Int)) = true := decide_eq_true (by omega)); have hm10 : L.length ≤ 10 := HM.out; clear hxi hmem hi1 hi2; obtain ⟨y, hy⟩ : ∃ y, cold S h i = y := ⟨_, rfl⟩; have HY := Aside0.mk hy; clear hy; (go_wp2_with (first | (go_at_call 87; (with_reducible refine (coldf.calls S A0 n0 c0 A1 c1 C B M Bb Bh i h _ ?s1 ?s2 ?s3 ?s4 HI1.out HI2.out).mono ?_); (case s1 => exact Kd.C_below HS.out HB.out); (case s2 => exact HBo.out.below HB.out); (case s3 => exact HVb.out.below HB.out); (case s4 => exact HVh.out.below HB.out); rw [HY.out]; rintro e w' ⟨rfl, ⟨nd, rfl⟩⟩) | ((with_reducible refine gate_builtin (b := .append) (xs := #[.tmp 14, .tmp 18]) rfl ?_); at_builtin; refine Kd.R_append (Kd.int .i64) (w0 := w) w.heap.size rfl (.tmp 14) (.tmp 18) 28 3 (.int .i64 0) 8 rfl Try.underlying28 info3 rfl (by decide) (by omega) u5 ((L.take k).map fun x => cold S h x.toNat) y [.int .i64 y] (fun _ => True) (fun _ => False) rfl rfl ?aP (fun _ hk => hk.elim) ?aF ?aO ?aB ?aS ?aL ?_; (case aP => exact rfl); (case aB => exact (by repeat (first | (with_reducible first | exact HB.out | apply below_alloc | apply pw_below_drewN | apply below_drew1) | exact HB.out))); (case aF => exact (fun _ _ => trivial)); (case aO => exact (by (with_reducible repeat (first | apply Kd.R_alloc | apply Kd.R_drewN | apply Kd.R_drew)); exact HO.out)); (case aS => exact (below_size (by repeat (first | (with_reducible first | exact HB.out | apply below_alloc | apply pw_below_drewN | apply below_drew1) | exact HB.out)))); (case aL => have := HM.out; simp; omega); intro v144 w6 ho hb hg hat; have n0_ := Aside0.mk (hb); have n1_ := Aside0.mk (ho); clear HB; clear HO; have HB := n0_; have HO := n1_; clear n0_ n1_; clear ho hb hg hat))); go_roundg (L.length - k); (case measure => have := HK.out; omega)
    case rel =>
     refine ⟨k + 1, by go_num, ⟨by have := HK.out; omega⟩, ⟨?_⟩, HB⟩
     have h1 : ((L.take (k + 1)).map fun x => cold S h x.toNat) = ((L.take k).map fun x => cold S h x.toNat) ++ [y] := by
      rw [List.take_add_one, HX.out, ← HY.out]; simp
     rw [h1]; exact HO.out
  · (have hd : decide ((k : Int) < (L.length : Int)) = false := decide_eq_false (by omega)); (have HO' := Aside0.mk (show Kd.R (Kd.int .i64) 3 wr w.heap.size (fun _ => True) u5 (L.map fun x => cold S h x.toNat) by have h := HO.out; rwa [List.take_of_length_le (by omega)] at h)); clear HO; (go_wp2_with (go_at_call 100; (with_reducible refine (sortF.calls u5 (L.map fun x => cold S h x.toNat) w.heap.size (fun _ => True) _ ?s1 HO'.out).mono ?_); (case s1 => have := HM.out; simp; omega); rintro e w' ⟨rfl, hr, hg⟩; have HR := Aside0.mk hr; have HB2 := Aside0.mk (HB.out.grown hg (below_size HB.out) (Kd.R_base HO'.out)); clear hr hg)); go_ret; exact ⟨_, rfl, HR.out, HB2.out⟩
end Go.Proofs.Ytmkdllaagaimlaa.C
end
section
namespace Go.Proofs.Ytmkdllaagaimlaa.C
open Go.RowKit Go.Proofs.YtmkdllaagaimlaaW.PrintWords Go.Proofs.YtmkdllaagaimlaaW.PrintLast Go.Proofs.YtmkdllaagaimlaaW.PrintMore
set_option linter.unusedVariables false
set_option linter.unusedSimpArgs false
theorem wraps_i64 (n : Int) (h0 : 0 ≤ n) (h1 : n < 2 ^ 62) : IntKind.i64.wrap n = n := by rw [IntKind.wrap_i64]; omega
theorem wrap64_of (n : Int) (h0 : -9223372036854775808 ≤ n) (h1 : n ≤ 9223372036854775807) : wrap64 n = n := by unfold wrap64; omega
theorem bits_and (a b : Nat) (ha : a < 2 ^ 62) (hb : b < 2 ^ 62) : bits .and .i64 a b = ((a &&& b : Nat) : Int) := (bits_nat .i64 62 (by decide) wraps_i64 a b ha hb).1
theorem bits_or (a b : Nat) (ha : a < 2 ^ 62) (hb : b < 2 ^ 62) : bits .or .i64 a b = ((a ||| b : Nat) : Int) := (bits_nat .i64 62 (by decide) wraps_i64 a b ha hb).2
theorem has_f (C i : Nat) (hC : C < 2 ^ 62) (hi : i < 64) : cool_set_has.f C i = some (C.testBit i) := by
 unfold cool_set_has.f; (rw [if_pos (by omega)])
 have h1 : shr .i64 (C : Int) (i : Int) = ((C / 2 ^ i : Nat) : Int) := by
  unfold shr; (have : min (i : Int).toNat IntKind.i64.bits = i := by simp [IntKind.bits]; omega); rw [this]; simp
 have h2 : C / 2 ^ i < 2 ^ 62 := Nat.lt_of_le_of_lt (Nat.div_le_self _ _) hC; (rw [h1, show (1 : Int) = ((1 : Nat) : Int) from rfl, bits_and _ _ h2 (by decide)]); congr 1; rw [Nat.and_one_is_mod, Nat.testBit_eq_decide_div_mod_eq]; (have : ((C / 2 ^ i % 2 : Nat) : Int) = ((1 : Nat) : Int) ↔ C / 2 ^ i % 2 = 1 := by omega); rw [Bool.eq_iff_iff]; simp only [beq_iff_eq, decide_eq_true_eq]; exact this
def memN (C : Nat) : List Nat := (List.range 10).filter fun i => C.testBit i
def memI (C : Nat) : List Int := (memN C).map Int.ofNat
theorem list_l0 (C : Nat) (hC : C < 2 ^ 62) : ∀ (d i : Nat), i + d = 10 → ∀ k, d < k → ∀ acc : List Int, acc.length ≤ i →
    cool_set_list.l0 k C acc i = some (acc ++ ((List.range' i d).filter fun j => C.testBit j).map Int.ofNat) := by
 intro d
 induction d with
 | zero =>
  intro i hi k hk acc _; (obtain ⟨k, rfl⟩ : ∃ m, k = m + 1 := ⟨k - 1, by omega⟩); simp only [cool_set_list.l0]; (rw [if_neg (by omega)]; simp)
 | succ d ih =>
  intro i hi k hk acc ha; (obtain ⟨k, rfl⟩ : ∃ m, k = m + 1 := ⟨k - 1, by omega⟩); simp only [cool_set_list.l0]; (rw [if_pos (by omega), has_f C i hC (by omega)]); simp only [Option.bind_some]; (have hw : wrap64 ((i : Int) + 1) = ((i + 1 : Nat) : Int) := by rw [wrap64_of _ (by omega) (by omega)]; omega); rw [hw, List.range'_succ, List.filter_cons]; by_cases hb : C.testBit i = true
  · (rw [if_pos hb, if_pos hb, if_pos (by omega), ih (i + 1) (by omega) k (by omega) _ (by simp; omega)]); simp
  · rw [if_neg hb, if_neg hb, ih (i + 1) (by omega) k (by omega) _ (by omega)]
theorem list_f (C : Nat) (hC : C < 2 ^ 62) (k : Nat) (hk : 10 < k) : cool_set_list.f k C = some (memI C) := by
 unfold cool_set_list.f; (have := list_l0 C hC 10 0 rfl k hk [] (by simp)); simp only [List.nil_append, Int.ofNat_zero] at this; refine Eq.trans this ?_; unfold memI memN; rw [List.range_eq_range']
end Go.Proofs.Ytmkdllaagaimlaa.C
end
section
namespace Go.Proofs.Ytmkdllaagaimlaa.C
open Go.RowKit Go.Proofs.YtmkdllaagaimlaaW.PrintWords Go.Proofs.YtmkdllaagaimlaaW.PrintLast Go.Proofs.YtmkdllaagaimlaaW.PrintMore
set_option linter.unusedVariables false
set_option linter.unusedSimpArgs false
def colds (S : List S64) (h C : Nat) : List Int := isorted ((memI C).map fun x => cold S h x.toNat)
theorem memN_lt {C n : Nat} (hC : C < 2 ^ n) : ∀ i ∈ memN C, i < n ∧ i < 10 := by
 intro i hi; unfold memN at hi; rw [List.mem_filter, List.mem_range] at hi; refine ⟨?_, hi.1⟩; (rcases Nat.lt_or_ge i n with h | h)
 · exact h
 · (have := Nat.testBit_lt_two_pow (Nat.lt_of_lt_of_le hC (Nat.pow_le_pow_right (by decide) h))); rw [this] at hi; simp at hi
theorem memN_len (C : Nat) : (memN C).length ≤ 10 := by
 unfold memN; (exact Nat.le_trans (List.length_filter_le _ _) (by simp))
theorem memI_len (C : Nat) : (memI C).length ≤ 10 := by unfold memI; rw [List.length_map]; exact memN_len C
def Gd (S : List S64) (nh : Nat) : Prop := S.length ≤ 10 ∧ ∀ i : Nat, i < S.length → (rd_T64 S (i : Int)).f2.length = nh
set_option maxHeartbeats 1000000 in
set_option maxRecDepth 100000 in
theorem colds.calls (S : List S64) (nh : Nat) (A0 : Option Addr) (n0 c0 : Nat) (A1 : Option Addr) (c1 : Nat) (C0 : Int) (B M h C : Nat) (w : World) (hS : Kd.C k64 w A1 S.length S) (hG : Gd S nh) (hB : Bo w B A0 n0 c0 A1 S.length c1 C0 M) (hh : h < nh) (hC : C < 2 ^ S.length) :
    Calls Try.prog 54 #[.pointer (some ⟨B, 0, none⟩), .int .i64 h, .int .i64 C] w fun e w' => ∃ v : Value, e = .returned v ∧ Kd.R (Kd.int .i64) 3 w' w.heap.size (fun _ => True) v (colds S h C) ∧ Below w.heap.size w w' := by
 (have hmf : ∀ (fn : Fn) (first cap : Array Value) (w : World), (Instr.makeFunc fn first cap).run Try.prog w = .ok (.func fn first cap) w := fun _ _ _ _ => rfl); have HS := Aside0.mk hS; have HBo := Aside0.mk hB; (have HC62 := Aside0.mk (show C < 2 ^ 62 from Nat.lt_of_lt_of_le hC (Nat.pow_le_pow_right (by decide) (by have := hG.1; omega))))
 have HX := Aside0.mk (show ∀ x ∈ memI C, ∃ i : Nat, x = i ∧ i < S.length ∧ h < (rd_T64 S (i : Int)).f2.length by
  intro x hx; unfold memI at hx; obtain ⟨i, hi, rfl⟩ := List.mem_map.1 hx; have := memN_lt hC i hi
  exact ⟨i, rfl, this.1, by rw [hG.2 i this.1]; exact hh⟩)
 clear hS hG hB hh hC; have HB := Aside0.mk (Below.refl w.heap.size w); go_enter Try.func54, Try.ntmps54; (go_wp2_with (first | ((with_reducible refine gate_dst (N := 3) rfl ?_); refine box_event ?hg (N := 3) ?hd (cs := #[.pointer (some ⟨B, 0, none⟩)]) (t := 88) ?hr ?_; (case hd => rfl); (case hg => rfl); (case hr => first | (go_simp; done) | (go_simp; rfl)); intro gb hg w8 hbox hb; have HV1 := Aside0.mk (show Vr w8 gb 88 _ from hbox); have n0_ := Aside0.mk (below_step HB.out hb); clear HB; have HB := n0_; clear n0_; clear hb hbox hg) | ((with_reducible refine gate_dst (N := 4) rfl ?_); refine box_event ?hg (N := 4) ?hd (cs := #[.int .i64 h]) (t := 3) ?hr ?_; (case hd => rfl); (case hg => rfl); (case hr => first | (go_simp; done) | (go_simp; rfl)); intro gh hg w9 hbox hb; have HV2 := Aside0.mk (show Vr w9 gh 3 _ from hbox); have n0_ := Aside0.mk (below_step HB.out hb); have n1_ := Aside0.mk (HV1.out.below hb); clear HB HV1; have HB := n0_; have HV1 := n1_; clear n0_ n1_; clear hb hbox hg) | (go_at_call 49; (with_reducible refine (cool_set_list.calls 11 (C : Int) (memI C) _ (list_f C HC62.out 11 (by decide))).mono ?_); rintro e w10 ⟨v, rfl, hr, hb⟩; obtain ⟨AL, cL, rfl, hcl, hrl⟩ := Kd.R_reads hr; have HRL := Aside0.mk hrl; have HCL := Aside0.mk hcl; have n0_ := Aside0.mk (below_step HB.out hb); have n1_ := Aside0.mk (HV1.out.below hb); have n2_ := Aside0.mk (HV2.out.below hb); clear HB HV1 HV2; have HB := n0_; have HV1 := n1_; have HV2 := n2_; clear n0_ n1_ n2_ hb hr hcl hrl) | (go_at_call 86; (with_reducible refine (sorted.calls S A0 n0 c0 A1 c1 C0 B M gb gh h AL cL (memI C) _ HRL.out HCL.out ?s1 ?s2 HV1.out HV2.out (memI_len C) HX.out).mono ?_); (case s1 => exact Kd.C_below HS.out HB.out); (case s2 => exact HBo.out.below HB.out); rintro e w11 ⟨v, rfl, hr, hb⟩; have HR := Aside0.mk (Kd.R_lower hr (below_size HB.out)); have HB2 := Aside0.mk (below_step HB.out hb); clear hr hb))); go_ret; exact ⟨_, rfl, HR.out, HB2.out⟩
end Go.Proofs.Ytmkdllaagaimlaa.C
end
section
namespace Go.Proofs.Ytmkdllaagaimlaa.C
open Go.RowKit Go.Proofs.YtmkdllaagaimlaaW.PrintWords Go.Proofs.YtmkdllaagaimlaaW.PrintLast Go.Proofs.YtmkdllaagaimlaaW.PrintMore
set_option linter.unusedVariables false
set_option linter.unusedSimpArgs false
theorem fields108 : Try.prog.fieldsOf 108 = #[{ name := "house", type := 3, offset := 0, embedded := false, tag := "", pkgPath := "talik/cool", byteOffset := 0 }, { name := "fails", type := 3, offset := 1, embedded := false, tag := "", pkgPath := "talik/cool", byteOffset := 8 }, { name := "coolers", type := 84, offset := 2, embedded := false, tag := "", pkgPath := "talik/cool", byteOffset := 16 }] := by kernel_rfl
abbrev qV (a b c : Int) : Value := .agg #[.int .i64 a, .int .i64 b, .int .i64 c]
theorem eq108 (a b c a' b' c' : Int) (w : World) : (Op.equal 108 (qV a b c) (qV a' b' c')).run Try.prog w = .ok (a == a' && (b == b' && c == c')) w := by
 have u3 := Try.underlying3; have a3 := Try.isAgg3; have z3 := Try.sizeOf3; have u84 := Try.underlying84; have a84 := Try.isAgg84; have z84 := Try.sizeOf84; unfold Op.equal; (rw [show Op.maxDepth = 9999 + 1 from rfl, run_equalIn_struct w 9999 108 _ _ (by rw [fields108]; exact Try.underlying108) (by kernel_rfl), fields108]); go_simp; (by_cases h1 : a = a' <;> by_cases h2 : b = b' <;> by_cases h3 : c = c' <;> simp [h1, h2, h3])
theorem check3 (e : Bool) (a : Int) (w : World) : (Instr.checkKey e 9999 3 (.int .i64 a)).run Try.prog w = .ok () w := by
 have u3 := Try.underlying3; (rw [show (9999 : Nat) = 9998 + 1 from rfl]); unfold Instr.checkKey; simp [go_sem, u3]
theorem check84 (e : Bool) (a : Int) (w : World) : (Instr.checkKey e 9999 84 (.int .i64 a)).run Try.prog w = .ok () w := by
 have u84 := Try.underlying84; (rw [show (9999 : Nat) = 9998 + 1 from rfl]); unfold Instr.checkKey; simp [go_sem, u84]
theorem check108 (e : Bool) (a b c : Int) (w : World) : (Instr.checkKey e 10000 108 (qV a b c)).run Try.prog w = .ok () w := by
 have u3 := Try.underlying3; have a3 := Try.isAgg3; have z3 := Try.sizeOf3; have u84 := Try.underlying84; have a84 := Try.isAgg84; have z84 := Try.sizeOf84; have u108 := Try.underlying108; have c3 := check3 e; have c84 := check84 e; unfold Instr.checkKey; simp [go_sem, u108, c3, c84]
theorem find108 (a b c : Int) : ∀ (es : List MapEntry) (i : Nat), (∀ e ∈ es, ∃ a' b' c', e.key = qV a' b' c') →
    ∃ r : Option (Nat × Value), (∀ w, (Instr.findAsking 108 (qV a b c) es i).run Try.prog w = .ok r w) ∧ ∀ j v, r = some (j, v) → ∃ e ∈ es, e.key = qV a b c ∧ e.val = v := by
 intro es
 induction es with
 | nil => intro i _; exact ⟨none, fun w => by simp [Instr.findAsking], fun j v h => by cases h⟩
 | cons e r ih =>
  intro i hk; (obtain ⟨a', b', c', he⟩ := hk e (by simp)); by_cases heq : (a == a' && (b == b' && c == c')) = true
  · refine ⟨some (i, e.val), fun w => ?_, fun j v h => ?_⟩
    · simp only [Instr.findAsking, he]; rw [Sem.run_bind, eq108, heq]; simp
    · cases h; simp only [Bool.and_eq_true, beq_iff_eq] at heq; obtain ⟨rfl, rfl, rfl⟩ := heq; (exact ⟨e, by simp, he, rfl⟩)
  · (obtain ⟨q, hq, hv⟩ := ih (i + 1) (fun e' h => hk e' (by simp [h]))); (refine ⟨q, fun w => ?_, fun j v h => ?_⟩)
    · simp only [Instr.findAsking, he]; rw [Sem.run_bind, eq108, Bool.eq_false_iff.mpr heq]; simp [hq]
    · obtain ⟨e', h1, h2⟩ := hv j v h; (exact ⟨e', by simp [h1], h2⟩)
theorem findKey108 (a b c : Int) (es : List MapEntry) (hk : ∀ e ∈ es, ∃ a' b' c', e.key = qV a' b' c') :
    ∃ r : Option (Nat × Value), (∀ w, (Instr.findKey 108 (qV a b c) es).run Try.prog w = .ok r w) ∧ ∀ j v, r = some (j, v) → ∃ e ∈ es, e.key = qV a b c ∧ e.val = v := by
 cases es with
 | nil => exact ⟨none, fun w => by simp [Instr.findKey, run_underlying Try.underlying108, Instr.findNow], fun j v h => by cases h⟩
 | cons e r =>
  obtain ⟨q, hq, hv⟩ := find108 a b c (e :: r) 0 hk; (exact ⟨q, fun w => by simp [Instr.findKey, run_underlying Try.underlying108, Instr.findNow, Instr.sameNow, hq], hv⟩)
def levelB (H : List S60) (S : List S64) (h f C : Nat) : Bool := decide ((rd_T60 H (h : Int)).f0.f1 ≤ ((colds S h C).drop f).sum)
def KeptOk (H : List S60) (S : List S64) (es : Array MapEntry) : Prop := ∀ e ∈ es.toList, ∃ h f C : Nat, e.key = qV h f C ∧ e.val = .bool (levelB H S h f C)
def Mp (w : World) (M : Nat) (H : List S60) (S : List S64) : Prop := ∃ es clock, w.heap[M]? = some (.map es clock) ∧ KeptOk H S es
theorem underlying92 : Try.prog.underlying 92 = some (.map 108 4) := by kernel_rfl
theorem zero4 (w : World) : (zeroValue 4).run Try.prog w = .ok (.bool false) w := by kernel_rfl
theorem Mp.look {w : World} {M : Nat} {H : List S60} {S : List S64} (hM : Mp w M H S) (h f C : Nat) :
    ∃ b ok : Bool, (∀ n, (Instr.lookup 92 (.map (some M)) (qV h f C) true).run Try.prog (w.drewN n) = .ok (.tuple #[.bool b, .bool ok]) (w.drewN n)) ∧ (ok = true → b = levelB H S h f C) ∧
      (ok = false → ∀ W : World, W.heap[M]? = w.heap[M]? → ∃ W', (Instr.mapUpdate 92 (.map (some M)) (qV h f C) (.bool (levelB H S h f C))).run Try.prog W = .ok () W' ∧ Mp W' M H S ∧ W.grownBy W' (some M)) := by
 obtain ⟨es, clock, hm, hk⟩ := hM; (obtain ⟨r, hr, hv⟩ := findKey108 h f C es.toList (fun e he => by obtain ⟨h', f', C', hkey, _⟩ := hk e he; exact ⟨h', f', C', hkey⟩))
 cases r with
 | none =>
  refine ⟨false, false, fun n => ?_, fun h => (by cases h), fun _ W hW => ?_⟩
  · have hm' : (w.drewN n).heap[M]? = some (.map es clock) := hm; simp [Instr.lookup, run_underlying underlying92, MapKept.run_getObj_map hm', check108, hr, zero4]
  · rw [hm] at hW; (refine ⟨{ W with heap := W.heap.setIfInBounds M (.map (es.push { key := qV h f C, val := .bool (levelB H S h f C), born := clock }) (clock + 1)) }, ?_, ?_, ?_⟩)
    · simp [Instr.mapUpdate, run_underlying underlying92, MapKept.run_getObj_map hW, check108, hr, MapKept.run_setObj_map _ hW]
    · refine ⟨es.push { key := qV h f C, val := .bool (levelB H S h f C), born := clock }, clock + 1, ?_, ?_⟩
      · have hlt := (Array.getElem?_eq_some_iff.1 hW).1; (show (W.heap.setIfInBounds M _)[M]? = _); rw [Array.getElem?_setIfInBounds, if_pos rfl, if_pos hlt]
      · intro e he; rw [Array.toList_push, List.mem_append, List.mem_singleton] at he; (rcases he with he | rfl)
        · exact hk e he
        · exact ⟨h, f, C, rfl, rfl⟩
    · (refine ⟨rfl, rfl, rfl, by simp, fun i hi hne => ?_⟩); (show (W.heap.setIfInBounds M _)[i]? = _); (rw [Array.getElem?_setIfInBounds, if_neg (fun e => hne (by rw [e]))])
 | some jv =>
  obtain ⟨j, v⟩ := jv; obtain ⟨e, he, hkey, hval⟩ := hv j v rfl; obtain ⟨h', f', C', hkey', hval'⟩ := hk e he; rw [hkey] at hkey'
  have heq : h' = h ∧ f' = f ∧ C' = C := by
   simp only [qV, Value.agg.injEq] at hkey'; (have h0 := congrArg (fun x : Array Value => x.toList) hkey'); simp at h0; omega
  obtain ⟨rfl, rfl, rfl⟩ := heq; rw [hval'] at hval; subst hval; (refine ⟨levelB H S h' f' C', true, fun n => ?_, fun _ => rfl, fun h => (by cases h)⟩); have hm' : (w.drewN n).heap[M]? = some (.map es clock) := hm; simp [Instr.lookup, run_underlying underlying92, MapKept.run_getObj_map hm', check108, hr]
end Go.Proofs.Ytmkdllaagaimlaa.C
end
section
namespace Go.Proofs.Ytmkdllaagaimlaa.C
open Go.RowKit Go.Proofs.YtmkdllaagaimlaaW.PrintWords Go.Proofs.YtmkdllaagaimlaaW.PrintLast Go.Proofs.YtmkdllaagaimlaaW.PrintMore
set_option linter.unusedVariables false
set_option linter.unusedSimpArgs false
theorem split2 (l : List Int) (j : Nat) (h : j + 1 < l.length) : ∃ p q, l = p ++ l.getD j 0 :: l.getD (j + 1) 0 :: q ∧ p.length = j := by
 refine ⟨l.take j, l.drop (j + 2), ?_, by simp; omega⟩
 have h1 : l.drop j = l.getD j 0 :: l.drop (j + 1) := by
  (rw [List.drop_eq_getElem_cons (by omega : j < l.length)]); (simp [List.getD_eq_getElem?_getD, List.getElem?_eq_getElem (by omega : j < l.length)])
 have h2 : l.drop (j + 1) = l.getD (j + 1) 0 :: l.drop (j + 2) := by
  rw [List.drop_eq_getElem_cons h]; simp [List.getD_eq_getElem?_getD, List.getElem?_eq_getElem h]
 rw [← h2, ← h1, List.take_append_drop]
theorem swap2 (p q : List Int) (a b : Int) : ((p ++ a :: b :: q).set (p.length + 1) a).set p.length b = p ++ b :: a :: q := by
 simp [List.set_append]
theorem sw_eq (l : List Int) (j : Nat) (h : j + 1 < l.length) : ∃ p q, l = p ++ l.getD j 0 :: l.getD (j + 1) 0 :: q ∧ p.length = j ∧ (l.set (j + 1) (l.getD j 0)).set j (l.getD (j + 1) 0) = p ++ l.getD (j + 1) 0 :: l.getD j 0 :: q := by
 obtain ⟨p, q, h1, h2⟩ := split2 l j h; refine ⟨p, q, h1, h2, ?_⟩; generalize l.getD j 0 = a at h1 ⊢; generalize l.getD (j + 1) 0 = b at h1 ⊢; subst h1; rw [← h2]; exact swap2 p q a b
theorem ins_spec (j : Nat) : ∀ l : List Int, j < l.length → (ins l j).drop (j + 1) = l.drop (j + 1) ∧ ((ins l j).take (j + 1)).Perm (l.take (j + 1)) ∧
    ((l.take j).Pairwise (· ≥ ·) → ((ins l j).take (j + 1)).Pairwise (· ≥ ·)) := by
 induction j with
 | zero =>
  intro l h
  cases l with
  | nil => simp at h
  | cons a r => simp [ins]
 | succ j ih =>
  intro l h
  have h0 : l.take (j + 1 + 1) = l.take (j + 1) ++ [l.getD (j + 1) 0] := by
   rw [List.take_add_one, List.getElem?_eq_getElem h]; simp [List.getD_eq_getElem?_getD, List.getElem?_eq_getElem h]
  have h0' : l.take (j + 1) = l.take j ++ [l.getD j 0] := by
   (have h' : j < l.length := by omega); rw [List.take_add_one, List.getElem?_eq_getElem h']; simp [List.getD_eq_getElem?_getD, List.getElem?_eq_getElem h']
  unfold ins; by_cases hlt : l.getD j 0 < l.getD (j + 1) 0
  · rw [if_pos hlt]; obtain ⟨p, q, e1, e2, e3⟩ := sw_eq l j h; generalize l.getD j 0 = a at *; generalize l.getD (j + 1) 0 = b at *; rw [e3]; (have hlen : j < (p ++ b :: a :: q).length := by simp; omega); obtain ⟨i1, i2, i3⟩ := ih (p ++ b :: a :: q) hlen; (have hp : l.take j = p := by rw [e1, ← e2]; simp); (have t1 : (p ++ b :: a :: q).take (j + 1) = p ++ [b] := by rw [← e2, List.take_append, List.take_of_length_le (by omega)]; simp); (have t2 : (p ++ b :: a :: q).drop (j + 1) = a :: q := by rw [← e2, List.drop_append]; simp); (have t3 : (p ++ b :: a :: q).take j = p := by rw [← e2]; simp); rw [t2] at i1; rw [t1] at i2; rw [t3] at i3
    have u1 : (ins (p ++ b :: a :: q) j).take (j + 1 + 1) = (ins (p ++ b :: a :: q) j).take (j + 1) ++ [a] := by
     rw [List.take_add_one]
     have : (ins (p ++ b :: a :: q) j)[j + 1]? = some a := by
      (have := congrArg (fun z => z[0]?) i1); simpa using this
     rw [this]; simp
    refine ⟨?_, ?_, ?_⟩
    · have := congrArg (List.drop 1) i1; rw [List.drop_drop] at this; (rw [show j + 1 + 1 = (j + 1) + 1 from rfl, this, e1, ← e2, List.drop_append, List.drop_eq_nil_of_le (show p.length ≤ p.length + 1 + 1 by omega), show p.length + 1 + 1 - p.length = 2 by omega]; rfl)
    · rw [u1, h0, h0', hp]; refine ((i2.append_right [a]).trans ?_); simp only [List.append_assoc, List.cons_append, List.nil_append]; exact List.Perm.append_left p (List.Perm.swap a b [])
    · intro hs; rw [h0', hp] at hs; have hs' := List.pairwise_append.1 hs; rw [u1]; (refine List.pairwise_append.2 ⟨i3 hs'.1, by simp, ?_⟩); intro x hx y hy; simp at hy; subst hy; have hx' := i2.subset hx; rw [List.mem_append] at hx'; (rcases hx' with hx' | hx')
      · exact hs'.2.2 x hx' _ (by simp)
      · simp at hx'; omega
  · rw [if_neg hlt]; generalize l.getD j 0 = a at *; generalize l.getD (j + 1) 0 = b at *; refine ⟨rfl, List.Perm.refl _, ?_⟩; intro hs; rw [h0]; (refine List.pairwise_append.2 ⟨hs, by simp, ?_⟩); intro x hx y hy; simp at hy; subst hy; rw [h0', List.mem_append] at hx; rw [h0'] at hs; (rcases hx with hx | hx)
    · (have := (List.pairwise_append.1 hs).2.2 x hx a (by simp)); omega
    · simp at hx; omega
theorem ins_perm (j : Nat) (l : List Int) (h : j < l.length) : (ins l j).Perm l := by
 obtain ⟨h1, h2, _⟩ := ins_spec j l h; have := h2.append_right (l.drop (j + 1)); rw [List.take_append_drop] at this; rw [← h1, List.take_append_drop] at this; exact this
theorem isort_spec : ∀ (k i : Nat) (l : List Int), i + k = l.length → (isort l i k).Perm l ∧ ((l.take i).Pairwise (· ≥ ·) → (isort l i k).Pairwise (· ≥ ·)) := by
 intro k
 induction k with
 | zero =>
  intro i l h; (refine ⟨List.Perm.refl _, fun hs => ?_⟩); (rwa [List.take_of_length_le (by omega)] at hs)
 | succ k ih =>
  intro i l h; (have hi : i < l.length := by omega); (obtain ⟨a, b⟩ := ih (i + 1) (ins l i) (by rw [ins_length]; omega)); (refine ⟨a.trans (ins_perm i l hi), fun hs => b ((ins_spec i l hi).2.2 hs)⟩)
theorem isorted_perm (l : List Int) : (isorted l).Perm l := by
 unfold isorted; (rcases Nat.eq_zero_or_pos l.length with h | h)
 · have : l = [] := List.eq_nil_of_length_eq_zero h; subst this; exact List.Perm.refl _
 · exact (isort_spec (l.length - 1) 1 l (by omega)).1
theorem isorted_desc (l : List Int) : (isorted l).Pairwise (· ≥ ·) := by
 unfold isorted; (rcases Nat.eq_zero_or_pos l.length with h | h)
 · have : l = [] := List.eq_nil_of_length_eq_zero h; subst this; simp [isort]
 · refine (isort_spec (l.length - 1) 1 l (by omega)).2 ?_
   cases l with
   | nil => simp at h
   | cons a r => simp
theorem sum_l0 (n : Nat) : ∀ (l : List Int) (d i : Nat), i + d = l.length → l.length ≤ 100 → (∀ x ∈ l, 0 ≤ x ∧ x ≤ 1000000) → ∀ acc : Int, 0 ≤ acc → acc ≤ 1000000 * i → ∀ k, d < k →
    cool_sum.l0 k acc l (l.length : Int) i = some (acc + (l.drop i).sum) := by
 intro l d
 induction d with
 | zero =>
  intro i h hl hb acc h0 h1 k hk; (obtain ⟨k, rfl⟩ : ∃ m, k = m + 1 := ⟨k - 1, by omega⟩); simp only [cool_sum.l0]; (rw [if_neg (by omega), List.drop_eq_nil_of_le (by omega)]; simp)
 | succ d ih =>
  intro i h hl hb acc h0 h1 k hk; (obtain ⟨k, rfl⟩ : ∃ m, k = m + 1 := ⟨k - 1, by omega⟩); (have hi : i < l.length := by omega); (have hx : rd l (i : Int) = l[i] := by simp [rd, List.getD_eq_getElem?_getD, List.getElem?_eq_getElem hi]); have hm := hb l[i] (List.getElem_mem hi); simp only [cool_sum.l0]; (rw [if_pos (by omega), if_pos (by omega), if_pos (by omega), hx]); (have w1 : wrap64 (acc + l[i]) = acc + l[i] := by unfold wrap64; omega); (have w2 : wrap64 ((i : Int) + 1) = ((i + 1 : Nat) : Int) := by unfold wrap64; omega); (rw [w1, w2, ih (i + 1) (by omega) hl hb _ (by omega) (by omega) k (by omega), List.drop_eq_getElem_cons hi, List.sum_cons, Int.add_assoc])
theorem sum_f (l : List Int) (hl : l.length ≤ 100) (hb : ∀ x ∈ l, 0 ≤ x ∧ x ≤ 1000000) (k : Nat) (hk : l.length < k) : cool_sum.f k l = some l.sum := by
 unfold cool_sum.f; (have := sum_l0 0 l l.length 0 (by omega) hl hb 0 (by omega) (by omega) k hk); simp at this; exact this
end Go.Proofs.Ytmkdllaagaimlaa.C
end
section
namespace Go.Proofs.Ytmkdllaagaimlaa.C
open Go.RowKit Go.Proofs.YtmkdllaagaimlaaW.PrintWords Go.Proofs.YtmkdllaagaimlaaW.PrintLast Go.Proofs.YtmkdllaagaimlaaW.PrintMore
attribute [local go_sem] max2_int min2_int max_two min_two
set_option linter.unusedVariables false
set_option linter.unusedSimpArgs false
def lv5.T : Bool × List (List Nat × List Nat) := (true, [([], []), ([0], [0]), ([1], [1]), ([2], [2]), ([], []), ([], []), ([3, 4, 5, 0, 1, 2, 3, 4, 5], [3, 4, 5])])
def lv5.B : List Nat := [0, 1, 3, 7, 0, 0, 63]
theorem lv5.tab : rtab .any (opsOf Try.f70 5) = lv5.T := by kernel_rfl
theorem lv5.bits : waitsOk lv5.T.2 lv5.B = true := by kernel_rfl
def Cb (S : List S64) (nh : Nat) : Prop := ∀ h i : Nat, h < nh → i < S.length → 0 ≤ cold S h i ∧ cold S h i ≤ 1000000
theorem colds_len (S : List S64) (h C : Nat) : (colds S h C).length ≤ 10 := by
 unfold colds; rw [(isorted_perm _).length_eq, List.length_map]; exact memI_len C
theorem colds_bd {S : List S64} {nh : Nat} (hb : Cb S nh) {h C : Nat} (hh : h < nh) (hC : C < 2 ^ S.length) : ∀ x ∈ colds S h C, 0 ≤ x ∧ x ≤ 1000000 := by
 intro x hx; unfold colds at hx; have hx' := (isorted_perm _).subset hx; obtain ⟨y, hy, rfl⟩ := List.mem_map.1 hx'; unfold memI at hy; obtain ⟨i, hi, rfl⟩ := List.mem_map.1 hy; exact hb h i hh (memN_lt hC i hi).1
theorem drop_min (l : List Int) (f : Nat) : l.drop (min f l.length) = l.drop f := by
 rcases Nat.le_total f l.length with h | h
 · rw [Nat.min_eq_left h]
 · rw [Nat.min_eq_right h, List.drop_eq_nil_of_le (Nat.le_refl _), List.drop_eq_nil_of_le h]
theorem grown_cell {w w' : World} {M : Nat} {es : Array MapEntry} {cl : Nat} (hg : w.grownBy w' (some M)) (hM : w.heap[M]? = some (.map es cl)) {a : Addr} {v : Value} (h : w.cell? a = some v) : w'.cell? a = some v := by
 have hlt : a.block < w.heap.size := World.block_lt_of_cell? w a h; by_cases e : a.block = M
 · unfold World.cell? at h; rw [e, hM] at h; simp at h
 · (have hb := hg.block a.block hlt (fun e' => e (Option.some.inj e'))); unfold World.cell? at h ⊢; rw [hb]; exact h
theorem C_cells {α : Type} {d : Kd α} {w w' : World} (hc : ∀ a v, w.cell? a = some v → w'.cell? a = some v) (hK : ∀ x cs, d.K w x cs → d.K w' x cs) {A : Option Addr} {n : Nat} {xs : List α} (h : Kd.C d w A n xs) : Kd.C d w' A n xs := by
 (refine ⟨h.1, h.2.1, fun hn => ?_⟩); obtain ⟨ad, e, hh⟩ := h.2.2 hn; (refine ⟨ad, e, fun j p hj => ?_⟩); obtain ⟨cs, h1, h2, h3⟩ := hh j p hj; (exact ⟨cs, h1, hK _ _ h2, fun i u hu => hc _ _ (h3 i u hu)⟩)
theorem C58_cells {w w' : World} (hc : ∀ a v, w.cell? a = some v → w'.cell? a = some v) {A : Option Addr} {n : Nat} {xs : List S58} (h : Kd.C k58 w A n xs) : Kd.C k58 w' A n xs := C_cells hc (fun _ _ h => h) h
theorem C60_cells {w w' : World} (hc : ∀ a v, w.cell? a = some v → w'.cell? a = some v) {A : Option Addr} {n : Nat} {xs : List S60} (h : Kd.C k60 w A n xs) : Kd.C k60 w' A n xs := C_cells hc (fun _ _ h => h) h
theorem C64_cells {w w' : World} (hc : ∀ a v, w.cell? a = some v → w'.cell? a = some v) {A : Option Addr} {n : Nat} {xs : List S64} (h : Kd.C k64 w A n xs) : Kd.C k64 w' A n xs :=
  C_cells hc (fun x cs h => by obtain ⟨A2, c2, rfl, l2, g2⟩ := k64_open h; exact k64_mk w' x l2 (C58_cells hc g2)) h
theorem CI_cells {w w' : World} (hc : ∀ a v, w.cell? a = some v → w'.cell? a = some v) {A : Option Addr} {n : Nat} {xs : List Int} (h : Kd.C (Kd.int .i64) w A n xs) : Kd.C (Kd.int .i64) w' A n xs := C_cells hc (fun _ _ h => h) h
theorem Mp.below {w w' : World} {M : Nat} {H : List S60} {S : List S64} (h : Mp w M H S) (hb : Below w.heap.size w w') : Mp w' M H S := by
 obtain ⟨es, cl, h1, h2⟩ := h; exact ⟨es, cl, (hb.block M (Array.getElem?_eq_some_iff.1 h1).1).trans h1, h2⟩
theorem Mp.drewN {w : World} {M : Nat} {H : List S60} {S : List S64} (h : Mp w M H S) (n : Nat) : Mp (w.drewN n) M H S := h
theorem grown_below' {w w1 w2 : World} {M : Nat} (h : Below w.heap.size w w1) (hg : w1.grownBy w2 (some M)) : w.grownBy w2 (some M) := World.grownBy.trans (grown_of_below h (some M)) hg
structure Tn (w : World) (B M : Nat) (A0 : Option Addr) (c0 : Nat) (H : List S60) (A1 : Option Addr) (c1 : Nat) (S : List S64) (C0 : Int) : Prop where
  hs : Kd.C k60 w A0 H.length H
  ss : Kd.C k64 w A1 S.length S
  bo : Bo w B A0 H.length c0 A1 S.length c1 C0 M
  mp : Mp w M H S
theorem Tn.below {w w' : World} {B M : Nat} {A0 : Option Addr} {c0 : Nat} {H : List S60} {A1 : Option Addr} {c1 : Nat} {S : List S64} {C0 : Int} (h : Tn w B M A0 c0 H A1 c1 S C0) (hb : Below w.heap.size w w') : Tn w' B M A0 c0 H A1 c1 S C0 :=
  ⟨Kd.C_below h.hs hb, Kd.C_below h.ss hb, h.bo.below hb, h.mp.below hb⟩
theorem Tn.drewN {w : World} {B M : Nat} {A0 : Option Addr} {c0 : Nat} {H : List S60} {A1 : Option Addr} {c1 : Nat} {S : List S64} {C0 : Int} (h : Tn w B M A0 c0 H A1 c1 S C0) (n : Nat) : Tn (w.drewN n) B M A0 c0 H A1 c1 S C0 :=
  ⟨Kd.C_drewN h.hs n, Kd.C_drewN h.ss n, h.bo.drewN n, h.mp.drewN n⟩
theorem Tn.ne {w : World} {B M : Nat} {A0 : Option Addr} {c0 : Nat} {H : List S60} {A1 : Option Addr} {c1 : Nat} {S : List S64} {C0 : Int} (h : Tn w B M A0 c0 H A1 c1 S C0) : B ≠ M := by
 rintro rfl; obtain ⟨es, cl, h1, _⟩ := h.mp; have := h.bo; unfold Bo at this; rw [h1] at this; cases this
theorem Tn.grown {w w' : World} {B M : Nat} {A0 : Option Addr} {c0 : Nat} {H : List S60} {A1 : Option Addr} {c1 : Nat} {S : List S64} {C0 : Int} (h : Tn w B M A0 c0 H A1 c1 S C0) (hg : w.grownBy w' (some M)) (hm : Mp w' M H S) : Tn w' B M A0 c0 H A1 c1 S C0 := by
 obtain ⟨es, cl, h1, _⟩ := h.mp; (have hc : ∀ a v, w.cell? a = some v → w'.cell? a = some v := fun a v h => grown_cell hg h1 h); (exact ⟨C60_cells hc h.hs, C64_cells hc h.ss, blk_grown h.bo hg (fun e => h.ne (Option.some.inj e)), hm⟩)
theorem Vr.grown {w w' : World} {B t M : Nat} {v : Value} (h : Vr w B t v) (hg : w.grownBy w' (some M)) (hne : B ≠ M) : Vr w' B t v := blk_grown h hg (fun e => hne (Option.some.inj e))
theorem Vr.drewN {w : World} {B t : Nat} {v : Value} (h : Vr w B t v) (n : Nat) : Vr (w.drewN n) B t v := h
theorem info3b : ∃ i, Try.prog.info? 3 = some i ∧ i.size = 1 := by
 obtain ⟨i, h1, h2⟩ := Option.map_eq_some_iff.1 info3; simp only [Prod.mk.injEq] at h2; exact ⟨i, h1, h2.2.1⟩
theorem cut_sum (L : List Int) (AL : Option Addr) (cL : Nat) (w : World) (hr : Kd.C (Kd.int .i64) w AL L.length L) (hc : L.length ≤ cL) (h10 : L.length ≤ 100) (hb : ∀ x ∈ L, 0 ≤ x ∧ x ≤ 1000000) (k : Nat) (hk : k ≤ L.length) :
    ∃ sv : Value, (∀ W, (Instr.slice 28 (.slice AL L.length cL) (some (.int .i64 (k : Int))) none none).run Try.prog W = .ok sv W) ∧ ∀ n, Calls Try.prog 55 #[sv] (w.drewN n) fun e w'' => e = .returned (.int .i64 (L.drop k).sum) ∧ ∃ m, w'' = w.drewN m := by
 obtain ⟨i, hi, hsz⟩ := info3b; (refine ⟨_, cut_from 28 3 .i64 Try.underlying28 hi 1 hsz AL L.length cL (k : Int) (by omega) (by omega), fun n => ?_⟩); have hd := Kd.C_drop hr hk hc; (have e : L.length - (k : Int).toNat = (L.drop k).length := by simp); rw [e]; simp only [Int.toNat_natCast]; (have hs := sum_f (L.drop k) (by simp; omega) (fun x hx => hb x (List.mem_of_mem_drop hx)) (L.length + 1) (by simp; omega)); (refine (cool_sum.calls (L.length + 1) _ (cL - k) (L.drop k) _ _ (Kd.C_drewN hd n) (by simp; omega) hs).mono ?_); rintro e w' ⟨rfl, ⟨nd, rfl⟩⟩; exact ⟨rfl, _, World.drewN_drewN _ _ _⟩
set_option maxHeartbeats 4000000 in
set_option maxRecDepth 100000 in
theorem level.calls (B M : Nat) (A0 : Option Addr) (c0 : Nat) (H : List S60) (A1 : Option Addr) (c1 : Nat) (S : List S64) (C0 : Int) (h f C : Nat) (w : World) (hT : Tn w B M A0 c0 H A1 c1 S C0) (hG : Gd S H.length) (hb : Cb S H.length) (hh : h < H.length) (hC : C < 2 ^ S.length) (hf : f ≤ 1000) :
    Calls Try.prog 70 #[.pointer (some ⟨B, 0, none⟩), qV h f C] w fun e w' => e = .returned (.bool (levelB H S h f C)) ∧ Tn w' B M A0 c0 H A1 c1 S C0 ∧ w.grownBy w' (some M) := by
 have hu94 := Try.underlying94; have hu25 := Try.underlying25; have hu108 := Try.underlying108; obtain ⟨lv, hlv⟩ : ∃ lv, levelB H S h f C = lv := ⟨_, rfl⟩; have HLV := Aside0.mk hlv; rw [hlv]; have HT := Aside0.mk hT; have HG := Aside0.mk hG; have HCB := Aside0.mk hb; have HH := Aside0.mk hh; have HCC := Aside0.mk hC; clear hT hG hb hh hC hlv; go_enter Try.func70, Try.ntmps70; (go_wp2_with ((with_reducible refine gate_dst (N := 3) rfl ?_); refine box_event ?hg (N := 3) ?hd (cs := #[.int .i64 h, .int .i64 f, .int .i64 C]) (t := 108) ?hr ?_; (case hd => rfl); (case hg => rfl); (case hr => first | (go_simp; done) | (go_simp; rfl)); intro gb hg w8 hbox hb; have HQ := Aside0.mk hbox; have HB := Aside0.mk hb; clear hbox hb hg)); have hq0 : w8.cell? ⟨gb, 0, none⟩ = some (.int .i64 h) := (blk_cell HQ.out 0).trans rfl; have hq1 : w8.cell? ⟨gb, 1, none⟩ = some (.int .i64 f) := (blk_cell HQ.out 1).trans rfl; have hq2 : w8.cell? ⟨gb, 2, none⟩ = some (.int .i64 C) := (blk_cell HQ.out 2).trans rfl; have HT1 := Aside0.mk (HT.out.below HB.out); have hk3 : w8.cell? ⟨B, 3, none⟩ = some (.map (some M)) := (blk_cell HT1.out.bo 3).trans rfl; obtain ⟨lk, ok, hl1, hl2⟩ := HT1.out.mp.look h f C; have HL := Aside0.mk hl2; clear hl2
 cases ok with
 | true =>
  go_quiet (fail); clear hl1; go_wp2; go_ret; refine ⟨?_, HT1.out.drewN _, grown_drewN (grown_of_below HB.out _) _⟩; have := HL.out.1 trivial; rw [HLV.out] at this; subst this; rfl
 | false =>
  go_quiet (fail); clear hl1; (go_wp2_with (go_at_call 54; (with_reducible refine (colds.calls S H.length A0 H.length c0 A1 c1 C0 B M h C _ ?s1 HG.out ?s2 HH.out HCC.out).mono ?_); (case s1 => exact Kd.C_drewN HT1.out.ss _); (case s2 => exact HT1.out.bo.drewN _); rintro e w9 ⟨v, rfl, hr, hb⟩; have HV := Aside0.mk hr; have HB9 := Aside0.mk hb; clear hr hb)); obtain ⟨L, hL⟩ : ∃ L, colds S h C = L := ⟨_, rfl⟩; (have hlen : L.length ≤ 10 := by rw [← hL]; exact colds_len S h C); (have hbd : ∀ x ∈ L, 0 ≤ x ∧ x ≤ 1000000 := by rw [← hL]; exact colds_bd HCB.out HH.out HCC.out); have HT2 := Aside0.mk ((HT1.out.drewN nq).below HB9.out); have HBT := Aside0.mk (below_step (pw_below_drewN HB.out nq) HB9.out); have hv := HV.out; rw [hL] at hv; obtain ⟨AL, cL, rfl, hcl, hrl⟩ := Kd.R_reads hv; obtain ⟨k, hk⟩ : ∃ k, min f L.length = k := ⟨_, rfl⟩; (have hkl : k ≤ L.length := by rw [← hk]; exact Nat.min_le_right _ _); (obtain ⟨sv, hcut, hsum⟩ := cut_sum L AL cL w9 hrl hcl (by omega) hbd k hkl); (obtain ⟨ad, e0, _, hx1, _⟩ := at_T60 HT2.out.hs (h : Int) (by omega) (by have := HH.out; omega)); simp only [Int.toNat_natCast] at hx1
  have hkv : ((if L.length < f then (L.length : Int) else (f : Int))) = (k : Int) := by
   rw [← hk]; by_cases h' : L.length < f
   · rw [if_pos h', Nat.min_eq_right (by omega)]
   · rw [if_neg h', Nat.min_eq_left (by omega)]
  have hlv : levelB H S h f C = decide ((rd_T60 H (h : Int)).f0.f1 ≤ (L.drop k).sum) := by
   unfold levelB; rw [hL, ← hk, drop_min]
  rw [HLV.out] at hlv; obtain ⟨y, hy⟩ : ∃ y, (rd_T60 H (h : Int)).f0.f1 = y := ⟨_, rfl⟩; obtain ⟨sm, hsm⟩ : ∃ sm, (L.drop k).sum = sm := ⟨_, rfl⟩; rw [hy] at hx1 hlv; rw [hsm] at hsum hlv; have hdec := hlv.symm; obtain ⟨nL, hnL⟩ : ∃ n, L.length = n := ⟨_, rfl⟩; obtain ⟨nH, hnH⟩ : ∃ n, H.length = n := ⟨_, rfl⟩; (have hH' : h < nH := by rw [← hnH]; exact HH.out); (have hb0 : w9.cell? ⟨B, 0, none⟩ = some (.slice (some ad) nH c0) := by rw [← hnH, ← e0]; exact (blk_cell HT2.out.bo 0).trans rfl); have hk3' : w9.cell? ⟨B, 3, none⟩ = some (.map (some M)) := (blk_cell HT2.out.bo 3).trans rfl; rw [hnL] at hcut hkv hlen ⊢; clear hq0 hq1 hq2 hk3 hv hcl hrl hk hkl e0 hlv hy hsm hnL hnH hL hbd; have hq0 : w9.cell? ⟨gb, 0, none⟩ = some (.int .i64 h) := (HB9.out.cell (blk_lt HQ.out)).trans ((blk_cell HQ.out 0).trans rfl); have hq1 : w9.cell? ⟨gb, 1, none⟩ = some (.int .i64 f) := (HB9.out.cell (blk_lt HQ.out)).trans ((blk_cell HQ.out 1).trans rfl); have hq2 : w9.cell? ⟨gb, 2, none⟩ = some (.int .i64 C) := (HB9.out.cell (blk_lt HQ.out)).trans ((blk_cell HQ.out 2).trans rfl); go_quiet ((go_at_call 55; exact hsum _)); clear hcut hsum; go_wp2; (have hMM : (w9.drewN nq).drew.heap[M]? = w8.heap[M]? := HB9.out.block M (by obtain ⟨es, cl, h1, _⟩ := HT1.out.mp; exact (Array.getElem?_eq_some_iff.1 h1).1)); (have HUP := Aside0.mk (HL.out.2 (by first | rfl | trivial) _ hMM)); (have HTx := Aside0.mk (show Tn (w9.drewN nq).drew B M A0 c0 H A1 c1 S C0 from HT2.out.drewN (nq + 1))); (have HBx := Aside0.mk (show Below w.heap.size w (w9.drewN nq).drew from (pw_below_drewN HBT.out nq).drew)); clear hMM; (refine start_ (n := 7) (S := fun w' => w'.cell? ⟨B, 3, none⟩ = some (.map (some M)) ∧ w'.cell? ⟨gb, 0, none⟩ = some (.int .i64 h) ∧ w'.cell? ⟨gb, 1, none⟩ = some (.int .i64 f) ∧ w'.cell? ⟨gb, 2, none⟩ = some (.int .i64 C)) (ds := [6]) #[false, false, false, false, false, false, false] (by kernel_rfl) rfl rfl ⟨hk3', hq0, hq1, hq2⟩ (fun hHeld => ?_); refine with_tabW lv5.tab lv5.bits (fun HT_ HW_ => ?_)); generalize (w9.drewN nq).drew = wx at HTx HBx HUP hHeld ⊢; obtain ⟨W', hup, hmp, hgr⟩ := HUP.out; rw [HLV.out] at hup; have HMP := Aside0.mk hmp; have HGR := Aside0.mk hgr; clear hmp hgr hq0 hq1 hq2 hk3' hb0 hx1; (refine pure_ (i := 0) (N := some 45) (v := ?_) (a' := ?_) #[true, false, false, false, false, false, false] rfl rfl (any_of HT_.out (by kernel_rfl)) (fun _ _ _ h => h) (Or.inl ⟨by rfl, ?_⟩) ?_ ?_); rotate_left
  · intro w'; go_simp; (with_reducible rfl)
  rotate_left
  · simp only [Act.put, List.setIfInBounds_toArray, List.set_cons_zero, List.set_cons_succ, i64_w, i32_w]; rfl
  (refine pure_ (i := 1) (N := some 46) (v := ?_) (a' := ?_) #[true, true, false, false, false, false, false] rfl rfl (any_of HT_.out (by kernel_rfl)) (fun _ _ _ h => h) (Or.inl ⟨by rfl, ?_⟩) ?_ ?_); rotate_left
  · intro w'; go_simp; (with_reducible rfl)
  rotate_left
  · simp only [Act.put, List.setIfInBounds_toArray, List.set_cons_zero, List.set_cons_succ, i64_w, i32_w]; rfl
  (refine pure_ (i := 2) (N := some 47) (v := ?_) (a' := ?_) #[true, true, true, false, false, false, false] rfl rfl (any_of HT_.out (by kernel_rfl)) (fun _ _ _ h => h) (Or.inl ⟨by rfl, ?_⟩) ?_ ?_); rotate_left
  · intro w'; go_simp; (with_reducible rfl)
  rotate_left
  · simp only [Act.put, List.setIfInBounds_toArray, List.set_cons_zero, List.set_cons_succ, i64_w, i32_w]; rfl
  (refine pure_ (i := 5) (N := some 50) (v := ?_) (a' := ?_) #[true, true, true, false, false, true, false] rfl rfl (any_of HT_.out (by kernel_rfl)) (fun _ _ _ h => h) (Or.inl ⟨by rfl, ?_⟩) ?_ ?_); rotate_left
  · intro w'; go_simp; (with_reducible rfl)
  rotate_left
  · simp only [Act.put, List.setIfInBounds_toArray, List.set_cons_zero, List.set_cons_succ, i64_w, i32_w]; rfl
  (refine take_ (i := 3) (N := some 48) (v := ?_) (a' := ?_) #[true, true, true, true, false, true, false] rfl rfl (take_ofW HT_.out HW_.out (by kernel_rfl)) (fun _ _ _ h => h) (Or.inl ⟨by rfl, ?_⟩) hHeld ?_ ?_); rotate_left
  · rintro w' ⟨s0, s1, s2, s3⟩; go_simp; (with_reducible rfl)
  rotate_left
  · simp only [Act.put, List.setIfInBounds_toArray, List.set_cons_zero, List.set_cons_succ, i64_w, i32_w]; rfl
  (refine take_ (i := 4) (N := some 49) (v := ?_) (a' := ?_) #[true, true, true, true, true, true, false] rfl rfl (take_ofW HT_.out HW_.out (by kernel_rfl)) (fun _ _ _ h => h) (Or.inl ⟨by rfl, ?_⟩) hHeld ?_ ?_); rotate_left
  · rintro w' ⟨s0, s1, s2, s3⟩; go_simp; (with_reducible rfl)
  rotate_left
  · simp only [Act.put, List.setIfInBounds_toArray, List.set_cons_zero, List.set_cons_succ, i64_w, i32_w]; rfl
  (refine last_ (i := 6) (N := none) #[true, true, true, true, true, true, true] rfl rfl (one_of HT_.out (by kernel_rfl)) (by decide) (fun K hK => ?_)); (refine skip_ (w1 := W') (by rfl) rfl (by go_simp) ?_); refine hK.out _ _ ?_; clear hK K; (refine done_ (done_of HT_.out (by kernel_rfl)) ?_); clear hup; go_wp2; go_ret; exact ⟨rfl, HTx.out.grown HGR.out HMP.out, grown_below' HBx.out HGR.out⟩
end Go.Proofs.Ytmkdllaagaimlaa.C
end
section
namespace Go.Proofs.Ytmkdllaagaimlaa.C
open Go.RowKit Go.Proofs.YtmkdllaagaimlaaW.PrintWords Go.Proofs.YtmkdllaagaimlaaW.PrintLast Go.Proofs.YtmkdllaagaimlaaW.PrintMore
set_option linter.unusedVariables false
set_option linter.unusedSimpArgs false
set_option maxHeartbeats 1000000 in
set_option maxRecDepth 100000 in
theorem must_yes (B M : Nat) (A0 : Option Addr) (c0 : Nat) (H : List S60) (A1 : Option Addr) (c1 : Nat) (S : List S64) (h f C : Nat) (w : World) (hT : Tn w B M A0 c0 H A1 c1 S C) (hG : Gd S H.length) (hb : Cb S H.length) (hh : h < H.length) (hC : C < 2 ^ S.length) (hf : f ≤ 1000) (hlv : levelB H S h f C = true) :
    Calls Try.prog 85 #[.pointer (some ⟨B, 0, none⟩), .int .i64 h, .int .i64 f] w fun e w' => e = .returned (.tuple #[]) ∧ Tn w' B M A0 c0 H A1 c1 S C ∧ w.grownBy w' (some M) := by
 have hu94 := Try.underlying94; have hk2 : w.cell? ⟨B, 2, none⟩ = some (.int .i64 C) := (blk_cell hT.bo 2).trans rfl; have hcall := level.calls B M A0 c0 H A1 c1 S C h f C w hT hG hb hh hC hf; rw [hlv] at hcall; clear hT hG hb hh hC hf hlv; go_enter Try.func85, Try.ntmps85; go_wp2_with (go_at_call 70; refine hcall.mono ?_; rintro e w1 ⟨rfl, ht, hg⟩; have HT := Aside0.mk ht; have HG := Aside0.mk hg; clear ht hg); go_end0; exact ⟨rfl, HT.out, HG.out⟩
abbrev unevenV (h : Int) : Value := .iface 119 (.agg #[.int .i64 h])
set_option maxHeartbeats 1000000 in
set_option maxRecDepth 100000 in
theorem must_no (B M : Nat) (A0 : Option Addr) (c0 : Nat) (H : List S60) (A1 : Option Addr) (c1 : Nat) (S : List S64) (h f C : Nat) (w : World) (hT : Tn w B M A0 c0 H A1 c1 S C) (hG : Gd S H.length) (hb : Cb S H.length) (hh : h < H.length) (hC : C < 2 ^ S.length) (hf : f ≤ 1000) (hlv : levelB H S h f C = false) :
    Calls Try.prog 85 #[.pointer (some ⟨B, 0, none⟩), .int .i64 h, .int .i64 f] w fun e w' => e = .panicked [{ v := unevenV h, recovered := false }] ∧ Tn w' B M A0 c0 H A1 c1 S C ∧ w.grownBy w' (some M) := by
 have hu94 := Try.underlying94; have hk2 : w.cell? ⟨B, 2, none⟩ = some (.int .i64 C) := (blk_cell hT.bo 2).trans rfl; have hcall := level.calls B M A0 c0 H A1 c1 S C h f C w hT hG hb hh hC hf; rw [hlv] at hcall; clear hT hG hb hh hC hf hlv; go_enter Try.func85, Try.ntmps85; go_wp2_with (go_at_call 70; refine hcall.mono ?_; rintro e w1 ⟨rfl, ht, hg⟩; have HT := Aside0.mk ht; have HG := Aside0.mk hg; clear ht hg); exact ⟨rfl, rfl, HT.out, HG.out⟩
theorem catch_idle (p q : Addr) (w : World) :
    CallsD Try.prog 84 #[.pointer (some p), .pointer (some q)] .returning w fun e u' w' => e = .returned (.tuple #[]) ∧ u' = .returning ∧ w = w' := by
 (refine callsD_of_wpS Try.func84 rfl fun c₀ cs hu => ?_); apply wpS_seq; apply wpS_region; simp [wpOpsS, go_sem, recoverD, hu, Try.ntmps84, Exit.thenS]; refine wpS_of_wp ?_; go_wp2; cases c₀; simp_all [bodyPostS, results, Try.results84]
theorem Vr.set {w : World} {B t : Nat} {v : Value} (h : Vr w B t v) (u : Value) : Vr (w.setCell ⟨B, 0, none⟩ u) B t u := blk_set h 0 u
theorem Vr.far {w : World} {B t : Nat} {v : Value} (h : Vr w B t v) {p : Addr} (hne : B ≠ p.block) (u : Value) : Vr (w.setCell p u) B t v := blk_far h hne u
theorem Vr.alloc {w : World} {B t : Nat} {v : Value} (h : Vr w B t v) (o : Obj) : Vr (w.alloc o) B t v := blk_alloc h o
set_option maxHeartbeats 1000000 in
set_option maxRecDepth 100000 in
theorem catch_uneven (b4 b5 : Nat) (x : Int) (y : Bool) (h : Int) (B : Nat) (w : World) (h4 : Vr w b4 3 (.int .i64 x)) (h5 : Vr w b5 4 (.bool y)) (hne : b4 ≠ b5) (hB4 : B ≤ b4) (hB5 : B ≤ b5) (hB : B ≤ w.heap.size) :
    CallsD Try.prog 84 #[.pointer (some ⟨b4, 0, none⟩), .pointer (some ⟨b5, 0, none⟩)] (.panicking [{ v := unevenV h, recovered := false }]) w fun e u' w' =>
      e = .returned (.tuple #[]) ∧ u' = .panicking [{ v := unevenV h, recovered := true }] ∧ Vr w' b4 3 (.int .i64 h) ∧ Vr w' b5 4 (.bool true) ∧ Below B w w' := by
  have hu119 := Try.underlying119
  have hu20 := Try.underlying20
  refine callsD_of_wpS Try.func84 rfl fun c₀ cs hu => ?_
  apply wpS_seq
  apply wpS_region
  simp [wpOpsS, go_sem, recoverD, hu, Try.ntmps84, Exit.thenS]
  refine wpS_of_wp ?_
  have HV4 := Aside0.mk h4
  have HV5 := Aside0.mk h5
  have hc4 := h4.cell
  have hc5 := h5.cell
  have hf4 := h4.frozen
  have hf5 := h5.frozen
  clear h4 h5
  have hta : ∀ W : World, (Instr.typeAssert (unevenV h) 20 119 true).run Try.prog W = .ok (.tuple #[.agg #[.int .i64 h], .bool true]) W := fun W => by simp [Instr.typeAssert, run_underlying hu119, hu119]
  have hb4 : b4 < w.heap.size := blk_lt HV4.out
  have hb5 : b5 < w.heap.size := blk_lt HV5.out
  go_wp2
  refine ⟨rfl, _, rfl, .tuple #[], ?_, rfl, rfl, ?_, ?_, ?_⟩
  · simp [results, Try.results84]
  · exact ((HV4.out.set _).far hne _).alloc _
  · exact ((HV5.out.far (p := ⟨b4, 0, none⟩) (fun e => hne e.symm) _).set _).alloc _
  · exact (((Below.refl B w).setCell (p := ⟨b4, 0, none⟩) hB4 _).setCell (p := ⟨b5, 0, none⟩) hB5 _).alloc (by simp [World.setCell]; exact hB) _
theorem grown_below {w w3 w4 : World} {M : Nat} (hg : w.grownBy w3 (some M)) (hb : Below w.heap.size w3 w4) : w.grownBy w4 (some M) :=
  ⟨hb.os.trans hg.os, hb.tape.trans hg.tape, hb.output.trans hg.output, Nat.le_trans hg.size hb.size, fun k hk hne => (hb.block k hk).trans (hg.block k hk hne)⟩
theorem Mp.keep {w3 w4 : World} {B M : Nat} {H : List S60} {S : List S64} (h : Mp w3 M H S) (hb : Below B w3 w4) (hM : M < B) : Mp w4 M H S := by
 obtain ⟨es, cl, h1, h2⟩ := h; exact ⟨es, cl, (hb.block M hM).trans h1, h2⟩
theorem Tn.keep {w w3 w4 : World} {B M : Nat} {A0 : Option Addr} {c0 : Nat} {H : List S60} {A1 : Option Addr} {c1 : Nat} {S : List S64} {C0 : Int} (h : Tn w B M A0 c0 H A1 c1 S C0) (h3 : Tn w3 B M A0 c0 H A1 c1 S C0) (hg : w.grownBy w3 (some M)) (hb : Below w.heap.size w3 w4) : Tn w4 B M A0 c0 H A1 c1 S C0 := by
 refine h.grown (grown_below hg hb) (h3.mp.keep hb ?_); obtain ⟨es, cl, h1, _⟩ := h.mp; exact blk_lt h1
def brk (H : List S60) (S : List S64) (f C : Nat) : Option Nat := (List.range H.length).find? fun h => !levelB H S h f C
def brkI (H : List S60) (S : List S64) (f C : Nat) : Int := match brk H S f C with | some h => (h : Int) | none => 0
theorem brk_none {H : List S60} {S : List S64} {f C : Nat} (h : ∀ i, i < H.length → levelB H S i f C = true) : brk H S f C = none := by
 unfold brk; rw [List.find?_eq_none]; intro x hx; simp [h x (List.mem_range.1 hx)]
theorem brk_some {H : List S60} {S : List S64} {f C i : Nat} (hi : i < H.length) (h : ∀ j, j < i → levelB H S j f C = true) (hl : levelB H S i f C = false) : brk H S f C = some i := by
 unfold brk; rw [List.find?_range_eq_some]; (refine ⟨by simp [hl], List.mem_range.2 hi, fun j hj => by simp [h j hj]⟩)
set_option maxHeartbeats 4000000 in
set_option maxRecDepth 100000 in
theorem broken.calls (B M : Nat) (A0 : Option Addr) (c0 : Nat) (H : List S60) (A1 : Option Addr) (c1 : Nat) (S : List S64) (f C : Nat) (w : World) (hT : Tn w B M A0 c0 H A1 c1 S C) (hG : Gd S H.length) (hb : Cb S H.length) (hm : H.length ≤ 100) (hC : C < 2 ^ S.length) (hf : f ≤ 1000) :
    Calls Try.prog 52 #[.pointer (some ⟨B, 0, none⟩), .int .i64 f] w fun e w' => e = .returned (.tuple #[.int .i64 (brkI H S f C), .bool (brk H S f C).isSome]) ∧ Tn w' B M A0 c0 H A1 c1 S C ∧ w.grownBy w' (some M) := by
 have hu94 := Try.underlying94; have hu25 := Try.underlying25; (have hmf : ∀ (fn : Fn) (first cap : Array Value) (w : World), (Instr.makeFunc fn first cap).run Try.prog w = .ok (.func fn first cap) w := fun _ _ _ _ => rfl); have HT := Aside0.mk hT; have HG := Aside0.mk hG; have HCB := Aside0.mk hb; have HCC := Aside0.mk hC; have HF := Aside0.mk hf; have hk0 : w.cell? ⟨B, 0, none⟩ = some (.slice A0 H.length c0) := (blk_cell hT.bo 0).trans rfl; have hBw : B < w.heap.size := blk_lt hT.bo; clear hT hG hb hC hf; go_enter_defers Try.func52, Try.ntmps52; go_wp2; obtain ⟨w1, hw1⟩ : ∃ w1, (w.alloc (Obj.cells #[Value.int IntKind.i64 0] 3)).alloc (Obj.cells #[Value.bool false] 4) = w1 := ⟨_, rfl⟩; (have hB01 : Below w.heap.size w w1 := by subst hw1; exact ((Below.refl _ w).alloc (Nat.le_refl _) _).alloc (by simp) _); have HT1 := Aside0.mk (HT.out.below hB01); have hG01 := Aside0.mk (grown_of_below hB01 M)
 have hV4 : Vr w1 w.heap.size 3 (.int .i64 0) := by
  subst hw1; (exact Vr.alloc (show Vr (w.alloc _) w.heap.size 3 _ from heap_alloc_new w _) _)
 have hV5 : Vr w1 (w.heap.size + 1) 4 (.bool false) := by
  subst hw1; have h := heap_alloc_new (w.alloc (Obj.cells #[Value.int IntKind.i64 0] 3)) (Obj.cells #[Value.bool false] 4); rw [World.size_alloc] at h; exact h
 have hMw : M < w.heap.size := by
  obtain ⟨es, cl, h1, _⟩ := HT.out.mp; exact blk_lt h1
 rw [hw1]; clear hw1 hk0 hB01; have H4 := Aside0.mk hV4; have H5 := Aside0.mk hV5; clear hV4 hV5; (go_loopg [14, 6] (H.length) (fun kq v14 v6 wr => ∃ i : Nat, v14 = .int .i64 (i : Int) ∧ kq + i = H.length ∧ Aside0 (∀ j, j < i → levelB H S j f C = true) ∧ Aside0 (Tn wr B M A0 c0 H A1 c1 S C) ∧ Aside0 (w1.grownBy wr (some M)) ∧ Aside0 (Vr wr w.heap.size 3 (.int .i64 0)) ∧ Aside0 (Vr wr (w.heap.size + 1) 4 (.bool false)))); (case atStart => exact ⟨0, rfl, rfl, Aside0.mk (fun j hj => absurd hj (Nat.not_lt_zero j)), HT1, Aside0.mk (World.grownBy.refl w1 (some M)), H4, H5⟩)
 case round =>
  obtain ⟨i, rfl, hki, HA, HT2, HG2, H42, H52⟩ := hrel; by_cases hi : i < H.length
  · have hi' : decide ((i : Int) < (H.length : Int)) = true := by simp; omega
    cases hlv : levelB H S i f C with
    | true =>
     (have hm' : wrap64 ((i : Int) + 1) = ((i + 1 : Nat) : Int) := by rw [wrap64_of _ (by omega) (by omega)]; omega); (go_wp2_with (go_at_call 85; (with_reducible refine (must_yes B M A0 c0 H A1 c1 S i f C _ HT2.out HG.out HCB.out hi HCC.out HF.out hlv).mono ?_); rintro e w3 ⟨rfl, ht, hg⟩; have HT3 := Aside0.mk ht; have HG3 := Aside0.mk hg; clear ht hg)); go_roundg (H.length - (i + 1)); (case measure => omega)
     case rel =>
      (refine ⟨i + 1, rfl, by omega, Aside0.mk ?_, HT3, Aside0.mk (HG2.out.trans HG3.out), Aside0.mk (H42.out.grown HG3.out (by omega)), Aside0.mk (H52.out.grown HG3.out (by omega))⟩); intro j hj; (rcases Nat.lt_succ_iff_lt_or_eq.1 hj with h | rfl)
      · exact HA.out j h
      · exact hlv
    | false =>
     (go_wp2_with (go_at_call 85; (with_reducible refine (must_no B M A0 c0 H A1 c1 S i f C _ HT2.out HG.out HCB.out hi HCC.out HF.out hlv).mono ?_); rintro e w3 ⟨rfl, ht, hg⟩; have HT3 := Aside0.mk ht; have HG3 := Aside0.mk hg; clear ht hg)); (refine leaves_cons (f := 84) (args := #[.pointer (some ⟨w.heap.size, 0, none⟩), .pointer (some ⟨w.heap.size + 1, 0, none⟩)]) (by simp) (by simp [go_sem]) ?_); (refine (catch_uneven w.heap.size (w.heap.size + 1) 0 false i w.heap.size w3 (H42.out.grown HG3.out (by omega)) (H52.out.grown HG3.out (by omega)) (by omega) (Nat.le_refl _) (by omega) (by have := hG01.out.size; have := HG2.out.size; have := HG3.out.size; omega)).mono ?_); rintro e u' w4 ⟨rfl, rfl, h4, h5, hbb⟩; have hc4 := h4.cell; have hc5 := h5.cell; simp only [settle, List.dropWhile_nil, Leaves]; refine ⟨_, ?_, rfl, ?_, ?_⟩
     · simp [results, Try.results52, go_sem, hc4, hc5, brkI, brk_some hi HA.out hlv]
     · exact Tn.keep HT.out HT3.out (hG01.out.trans (HG2.out.trans HG3.out)) hbb
     · exact grown_below (hG01.out.trans (HG2.out.trans HG3.out)) hbb
  · (have hi' : decide ((i : Int) < (H.length : Int)) = false := by simp; omega); have hc4 := H42.out.cell; have hf4 := H42.out.frozen; have hc5 := H52.out.cell; have hf5 := H52.out.frozen; have hbs : Below w.heap.size wr ((wr.setCell ⟨w.heap.size, 0, none⟩ (.int .i64 0)).setCell ⟨w.heap.size + 1, 0, none⟩ (.bool false)) := ((Below.refl _ wr).setCell (p := ⟨w.heap.size, 0, none⟩) (Nat.le_refl _) _).setCell (p := ⟨w.heap.size + 1, 0, none⟩) (Nat.le_succ _) _; go_wp2; (refine leaves_cons (f := 84) (args := #[.pointer (some ⟨w.heap.size, 0, none⟩), .pointer (some ⟨w.heap.size + 1, 0, none⟩)]) (by simp) (by simp [go_sem]) ?_); refine (catch_idle _ _ _).mono ?_; rintro e u' w4 ⟨rfl, rfl, rfl⟩; simp only [settle, Leaves]; refine ⟨_, ?_, rfl, ?_, ?_⟩
    · (have hn : brk H S f C = none := brk_none (fun j hj => HA.out j (by omega))); simp [results, Try.results52, go_sem, hc4, hc5, brkI, hn]
    · exact Tn.keep HT.out HT2.out (hG01.out.trans HG2.out) hbs
    · exact grown_below (hG01.out.trans HG2.out) hbs
end Go.Proofs.Ytmkdllaagaimlaa.C
end
section
namespace Go.Proofs.Ytmkdllaagaimlaa.C
open Go.RowKit Go.Proofs.YtmkdllaagaimlaaW.PrintWords Go.Proofs.YtmkdllaagaimlaaW.PrintLast Go.Proofs.YtmkdllaagaimlaaW.PrintMore
set_option linter.unusedVariables false
set_option linter.unusedSimpArgs false
def incr (m : Int) : Int → List Int → Bool
  | _, [] => true
  | p, x :: r => decide (p < x) && (decide (0 ≤ x) && decide (x < m)) && incr m x r
def maskN : List Int → Nat
  | [] => 0
  | x :: r => 2 ^ x.toNat ||| maskN r
theorem shl_one : ∀ x : Nat, x < 10 → shl .i64 1 (x : Int) = ((2 ^ x : Nat) : Int) := by decide
theorem rd_drop {l : List Int} {i : Nat} (h : i < l.length) : l.drop i = rd l (i : Int) :: l.drop (i + 1) := by
 rw [List.drop_eq_getElem_cons h]; simp [rd, List.getD_eq_getElem?_getD, List.getElem?_eq_getElem h]
theorem pow_lt62 {x : Nat} (h : x < 10) : 2 ^ x < 2 ^ 62 := Nat.pow_lt_pow_right (by decide) (by omega)
theorem bits_l0 (H : List S60) (S : List S64) (l : List Int) (hS : S.length ≤ 10) : ∀ (d i : Nat), i + d = 11 → ∀ k, d < k → ∀ (a : Nat) (p : Int), a < 2 ^ 62 → (i : Int) ≤ p + 1 → p < S.length → i ≤ l.length → (i = 0 ∨ rd l (wrap64 ((i : Int) - 1)) = p) → (i = 0 → p = -1) →
    cool_bits.l0 k l (a : Int) l (l.length : Int) (i : Int) H S = some (if incr S.length p (l.drop i) then (((a ||| maskN (l.drop i) : Nat) : Int), true) else (0, false)) := by
 intro d
 induction d with
 | zero => intro i hi k hk a p ha hip hp; omega
 | succ d ih =>
  intro i hi k hk a p ha hip hp hil hr h0; (obtain ⟨k, rfl⟩ : ∃ m, k = m + 1 := ⟨k - 1, by omega⟩); simp only [cool_bits.l0]; by_cases hlt : i < l.length
  · (rw [if_pos (by omega), if_pos (by omega), if_pos (by omega), cool_in_f, rd_drop hlt]); (have hw0 : wrap64 ((S.length : Int) - 1) = (S.length : Int) - 1 := wrap64_of _ (by omega) (by omega)); (have hw1 : wrap64 ((i : Int) + 1) = ((i + 1 : Nat) : Int) := by rw [wrap64_of _ (by omega) (by omega)]; omega); obtain ⟨x, hx⟩ : ∃ x, rd l (i : Int) = x := ⟨_, rfl⟩; simp only [Option.bind_some, hw0, hw1, hx, incr, maskN]; by_cases hin : 0 ≤ x ∧ x < S.length
    · (have e1 : (decide (0 ≤ x) && decide (x ≤ (S.length : Int) - 1)) = true := by simp; omega); (have e2 : (decide (0 ≤ x) && decide (x < (S.length : Int))) = true := by simp; omega); rw [e1, e2]; (obtain ⟨n, rfl⟩ : ∃ n : Nat, x = n := ⟨x.toNat, by omega⟩); (have hn : n < 10 := by omega)
      have hnext : cool_bits.l0 k l (Go.bits .or .i64 (a : Int) (shl .i64 1 (n : Int))) l (l.length : Int) ((i + 1 : Nat) : Int) H S = some (if incr S.length (n : Int) (l.drop (i + 1)) then (((a ||| (2 ^ n ||| maskN (l.drop (i + 1))) : Nat) : Int), true) else (0, false)) ∨ ¬ (p < (n : Int)) := by
       by_cases hpn : p < (n : Int)
       · left; rw [shl_one n hn, bits_or _ _ ha (pow_lt62 hn)]; (rw [ih (i + 1) (by omega) k (by omega) (a ||| 2 ^ n) (n : Int) (Nat.or_lt_two_pow ha (pow_lt62 hn)) (by omega) (by omega) hlt (Or.inr ?_) (by omega)])
         · rw [Nat.or_assoc]
         · rw [wrap64_of _ (by omega) (by omega), ← hx]; congr 1; omega
       · exact Or.inr hpn
      rcases Nat.eq_zero_or_pos i with hz | hz
      · have hp' := h0 hz; (rw [if_pos rfl, if_neg (by omega), if_pos (by omega)]); (rcases hnext with h | h)
        · rw [h]; simp [show p < (n : Int) by omega]
        · omega
      · (have hrp : rd l (wrap64 ((i : Int) - 1)) = p := by rcases hr with h | h; omega; exact h); (have hwi : wrap64 ((i : Int) - 1) = (i : Int) - 1 := wrap64_of _ (by omega) (by omega)); (rw [if_pos rfl, if_pos (by omega)]); (rw [hrp, hwi, if_pos (by omega), if_pos (by omega)]); (rcases hnext with h | h)
        · by_cases hpn : p < (n : Int)
          · rw [if_neg (by omega), if_pos (by omega), h]; simp [hpn]
          · rw [if_pos (by omega)]; simp [hpn]
        · rw [if_pos (by omega)]; simp [h]
    · (have e1 : (decide (0 ≤ x) && decide (x ≤ (S.length : Int) - 1)) = false := by simp; omega); (have e2 : (decide (0 ≤ x) && decide (x < (S.length : Int))) = false := by simp; omega); rw [e1, e2]; simp
  · (have he : l.drop i = [] := List.drop_eq_nil_of_le (by omega)); (rw [if_neg (by omega), he]; simp [incr, maskN])
theorem bits_f (H : List S60) (S : List S64) (l : List Int) (hS : S.length ≤ 10) (h0 : 1 ≤ S.length) : cool_bits.f 12 H S l = some (if incr S.length (-1) l then ((maskN l : Int), true) else (0, false)) := by
 (have := bits_l0 H S l hS 11 0 rfl 12 (by omega) 0 (-1) (by decide) (by omega) (by omega) (by omega) (Or.inl rfl) (fun _ => rfl)); simp only [List.drop_zero, Nat.zero_or] at this; exact this
theorem incr_lt {m : Int} : ∀ {l : List Int} {p : Int}, incr m p l = true → ∀ x ∈ l, p < x ∧ 0 ≤ x ∧ x < m
  | [], _, _, x, hx => by cases hx
  | y :: r, p, h, x, hx => by
    simp only [incr, Bool.and_eq_true, decide_eq_true_eq] at h
    rcases List.mem_cons.1 hx with rfl | hx
    · exact ⟨h.1.1, h.1.2⟩
    · have := incr_lt h.2 x hx
      exact ⟨by omega, this.2⟩
theorem maskN_lt {n : Nat} : ∀ {l : List Int}, (∀ x ∈ l, 0 ≤ x ∧ x < n) → maskN l < 2 ^ n
  | [], _ => Nat.two_pow_pos n
  | x :: r, h => Nat.or_lt_two_pow (Nat.pow_lt_pow_right (by decide) (by have := h x (by simp); omega)) (maskN_lt fun y hy => h y (by simp [hy]))
theorem incr_mask {m : Nat} {l : List Int} (h : incr m (-1) l = true) : maskN l < 2 ^ m := maskN_lt fun x hx => (incr_lt h x hx).2
theorem maskN_bit (i : Nat) : ∀ (l : List Int), (∀ x ∈ l, 0 ≤ x) → ((maskN l).testBit i = true ↔ (i : Int) ∈ l)
  | [], _ => by simp [maskN]
  | x :: r, h => by
    have h0 := h x (by simp)
    simp only [maskN, Nat.testBit_or, Nat.testBit_two_pow, Bool.or_eq_true, decide_eq_true_eq, List.mem_cons, maskN_bit i r fun y hy => h y (by simp [hy])]
    constructor
    · rintro (h1 | h1)
      · left; omega
      · exact Or.inr h1
    · rintro (h1 | h1)
      · left; omega
      · exact Or.inr h1
theorem valid_facts {H : List S60} {S : List S64} (h : validB H S = true) : 1 ≤ H.length ∧ H.length ≤ 6 ∧ 1 ≤ S.length ∧ S.length ≤ 10 ∧ Gd S H.length ∧ Cb S H.length := by
 unfold validB at h; simp only [Bool.and_eq_true, decide_eq_true_eq, List.all_eq_true] at h; obtain ⟨⟨⟨⟨h1, h2⟩, h3, h4⟩, h5⟩, h6⟩ := h
 have hs : ∀ i : Nat, i < S.length → siteB H.length (rd_T64 S (i : Int)) = true := by
  intro i hi; apply h6; simp [rd_T64, List.getD_eq_getElem?_getD, List.getElem?_eq_getElem hi]
 refine ⟨h1, h2, h3, h4, ⟨h4, fun i hi => ?_⟩, fun h i hh hi => ?_⟩
 · have := hs i hi; simp only [siteB, Bool.and_eq_true, decide_eq_true_eq] at this; exact this.1.2
 · have := hs i hi; simp only [siteB, Bool.and_eq_true, decide_eq_true_eq, List.all_eq_true] at this; obtain ⟨⟨_, hl⟩, hal⟩ := this
   have h7 := hal (rd_T58 (rd_T64 S (i : Int)).f2 (h : Int)) (by
    have hh' : h < (rd_T64 S (i : Int)).f2.length := by omega
    simp [rd_T58, List.getD_eq_getElem?_getD, List.getElem?_eq_getElem hh'])
   simp only [spanB, Bool.and_eq_true, decide_eq_true_eq] at h7; unfold cold; (exact ⟨h7.1.1, by omega⟩)
def givenO (H : List S60) (S : List S64) (l : List Int) (fine : Bool) : Option Nat := if validB H S && fine && incr S.length (-1) l then some (maskN l) else none
theorem givenO_some {H : List S60} {S : List S64} {l : List Int} {fine : Bool} {C : Nat} (h : givenO H S l fine = some C) : validB H S = true ∧ fine = true ∧ incr S.length (-1) l = true ∧ C = maskN l ∧ C < 2 ^ S.length := by
 unfold givenO at h; split at h
 · rename_i hc; simp only [Bool.and_eq_true] at hc; cases h; exact ⟨hc.1.1, hc.1.2, hc.2, rfl, incr_mask hc.2⟩
 · cases h
end Go.Proofs.Ytmkdllaagaimlaa.C
end
section
namespace Go.Proofs.Ytmkdllaagaimlaa.C
open Go.RowKit Go.Proofs.YtmkdllaagaimlaaW.PrintWords Go.Proofs.YtmkdllaagaimlaaW.PrintLast Go.Proofs.YtmkdllaagaimlaaW.PrintMore
set_option linter.unusedVariables false
set_option linter.unusedSimpArgs false
set_option maxHeartbeats 4000000 in
set_option maxRecDepth 100000 in
theorem buy.calls (A0 : Option Addr) (c0 : Nat) (H : List S60) (A1 : Option Addr) (c1 : Nat) (S : List S64) (C : Nat) (w : World) (hs : Kd.C k60 w A0 H.length H) (ss : Kd.C k64 w A1 S.length S) :
    Calls Try.prog 51 #[.agg #[.slice A0 H.length c0, .slice A1 S.length c1], .int .i64 C] w fun e w' => ∃ B M : Nat, e = .returned (.pointer (some ⟨B, 0, none⟩)) ∧ w.heap.size ≤ B ∧ w.heap.size ≤ M ∧ Tn w' B M A0 c0 H A1 c1 S C ∧ Below w.heap.size w w' := by
 have hu25 := Try.underlying25; have hu94 := Try.underlying94; have hu92 := underlying92; have hmm := @run_makeMap Try.prog; have HS0 := Aside0.mk hs; have HS1 := Aside0.mk ss; clear hs ss; go_enter Try.func51, Try.ntmps51; (go_wp2_with (first | ((with_reducible refine gate_dst (N := 2) rfl ?_); refine box_event ?hg (N := 2) ?hd (cs := #[.slice A0 H.length c0, .slice A1 S.length c1]) (t := 25) ?hr ?_; (case hd => rfl); (case hg => rfl); (case hr => first | (go_simp; done) | (go_simp; rfl)); intro gb hg w8 hbox hb; have HBX := Aside0.mk (show TBox w8 gb A0 H.length c0 A1 S.length c1 from hbox); have HB := Aside0.mk hb; have hc0 : w8.cell? ⟨gb, 0, none⟩ = some (.slice A0 H.length c0) := (blk_cell hbox 0).trans rfl; have hc1 : w8.cell? ⟨gb, 1, none⟩ = some (.slice A1 S.length c1) := (blk_cell hbox 1).trans rfl; clear hbox hb hg) | ((with_reducible refine gate_dst (N := 9) rfl ?_); refine box_event ?hg (N := 9) ?hd (cs := #[.slice A0 H.length c0, .slice A1 S.length c1, .int .i64 C, .map (some w8.heap.size)]) (t := 94) ?hr ?_; (case hd => rfl); (case hg => rfl); (case hr => first | (go_simp; done) | (go_simp; rfl)); intro gb9 hg w9 hbox hb; have HX9 := Aside0.mk hbox; have HB9 := Aside0.mk hb; have HG9 := Aside0.mk hg; clear hbox hb hg))); (first | go_end0 | refine bodyPost_ret (results_tmp rfl _ _ _) rfl ?_); have hm : (w8.alloc (.map #[] 0)).heap[w8.heap.size]? = some (.map #[] 0) := heap_alloc_new w8 _; have hb1 : Below w.heap.size w (w8.alloc (.map #[] 0)) := HB.out.alloc HB.out.size _; (have hb2 : Below w.heap.size w w9 := hb1.trans ⟨HB9.out.os, HB9.out.tape, HB9.out.output, HB9.out.size, fun k hk => HB9.out.block k (Nat.lt_of_lt_of_le hk hb1.size)⟩); refine ⟨gb9, w8.heap.size, rfl, ?_, HB.out.size, ⟨Kd.C_below HS0.out hb2, Kd.C_below HS1.out hb2, HX9.out, ?_⟩, hb2⟩
 · rw [HG9.out]; exact hb1.size
 · (refine ⟨#[], 0, (HB9.out.block _ ?_).trans hm, fun e he => by simp at he⟩); exact blk_lt hm
end Go.Proofs.Ytmkdllaagaimlaa.C
end
section
namespace Go.Proofs.Ytmkdllaagaimlaa.C
open Go.RowKit Go.Proofs.YtmkdllaagaimlaaW.PrintWords Go.Proofs.YtmkdllaagaimlaaW.PrintLast Go.Proofs.YtmkdllaagaimlaaW.PrintMore
set_option linter.unusedVariables false
set_option linter.unusedSimpArgs false
set_option maxHeartbeats 4000000 in
set_option maxRecDepth 100000 in
theorem given.calls (A0 : Option Addr) (c0 : Nat) (H : List S60) (A1 : Option Addr) (c1 : Nat) (S : List S64) (Al : Option Addr) (cl : Nat) (l : List Int) (fine : Bool) (w : World) (hs : Kd.C k60 w A0 H.length H) (hc0 : H.length ≤ c0) (ss : Kd.C k64 w A1 S.length S) (hc1 : S.length ≤ c1) (hl : Kd.C (Kd.int .i64) w Al l.length l) (hcl : l.length ≤ cl) :
    Calls Try.prog 60 #[.agg #[.slice A0 H.length c0, .slice A1 S.length c1], .slice Al l.length cl, .bool fine] w fun e w' => Below w.heap.size w w' ∧ ((givenO H S l fine = none ∧ e = .returned (.tuple #[.pointer none, .int .i64 2])) ∨ ∃ C B M : Nat, givenO H S l fine = some C ∧ e = .returned (.tuple #[.pointer (some ⟨B, 0, none⟩), .int .i64 0]) ∧ w.heap.size ≤ B ∧ w.heap.size ≤ M ∧ Tn w' B M A0 c0 H A1 c1 S C) := by
 have hu25 := Try.underlying25; have HS0 := Aside0.mk hs; have HS1 := Aside0.mk ss; have HL := Aside0.mk hl; have HC0 := Aside0.mk hc0; have HC1 := Aside0.mk hc1; have HCL := Aside0.mk hcl; clear hs ss hl hc0 hc1 hcl
 cases hv : validB H S with
 | false =>
  have HV := Aside0.mk hv; clear hv; go_enter Try.func60, Try.ntmps60; (go_wp2_with (first | ((with_reducible refine gate_dst (N := 3) rfl ?_); refine box_event ?hg (N := 3) ?hd (cs := #[.slice A0 H.length c0, .slice A1 S.length c1]) (t := 25) ?hr ?_; (case hd => rfl); (case hg => rfl); (case hr => first | (go_simp; done) | (go_simp; rfl)); intro gb hg w8 hbox hb; have HBX := Aside0.mk (show TBox w8 gb A0 H.length c0 A1 S.length c1 from hbox); have HB := Aside0.mk hb; have hc0 : w8.cell? ⟨gb, 0, none⟩ = some (.slice A0 H.length c0) := (blk_cell hbox 0).trans rfl; have hc1 : w8.cell? ⟨gb, 1, none⟩ = some (.slice A1 S.length c1) := (blk_cell hbox 1).trans rfl; clear hbox hb hg) | (go_at_call 47; (with_reducible refine (cool_valid.calls A0 c0 H A1 c1 S false _ ?s1 HC0.out ?s2 HC1.out ?s3).mono ?_); (case s1 => exact Kd.C_below HS0.out HB.out); (case s2 => exact Kd.C_below HS1.out HB.out); (case s3 => exact congrArg some HV.out); rintro e wv ⟨rfl, hb⟩; have HBV := Aside0.mk (below_step HB.out hb); have HXV := Aside0.mk (HBX.out.below hb); have hd0 : wv.cell? ⟨gb, 0, none⟩ = some (.slice A0 H.length c0) := (blk_cell HXV.out 0).trans rfl; have hd1 : wv.cell? ⟨gb, 1, none⟩ = some (.slice A1 S.length c1) := (blk_cell HXV.out 1).trans rfl; clear hb))); go_ret2; (exact ⟨HBV.out, .inl ⟨by simp [givenO, HV.out], rfl⟩⟩)
 | true =>
  have HV := Aside0.mk hv; obtain ⟨v1, v2, v3, v4, v5, v6⟩ := valid_facts hv; have HBF := Aside0.mk (bits_f H S l v4 v3); clear hv v1 v2 v3 v4 v5 v6
  cases fine with
  | false =>
   go_enter Try.func60, Try.ntmps60; (go_wp2_with (first | ((with_reducible refine gate_dst (N := 3) rfl ?_); refine box_event ?hg (N := 3) ?hd (cs := #[.slice A0 H.length c0, .slice A1 S.length c1]) (t := 25) ?hr ?_; (case hd => rfl); (case hg => rfl); (case hr => first | (go_simp; done) | (go_simp; rfl)); intro gb hg w8 hbox hb; have HBX := Aside0.mk (show TBox w8 gb A0 H.length c0 A1 S.length c1 from hbox); have HB := Aside0.mk hb; have hc0 : w8.cell? ⟨gb, 0, none⟩ = some (.slice A0 H.length c0) := (blk_cell hbox 0).trans rfl; have hc1 : w8.cell? ⟨gb, 1, none⟩ = some (.slice A1 S.length c1) := (blk_cell hbox 1).trans rfl; clear hbox hb hg) | (go_at_call 47; (with_reducible refine (cool_valid.calls A0 c0 H A1 c1 S true _ ?s1 HC0.out ?s2 HC1.out ?s3).mono ?_); (case s1 => exact Kd.C_below HS0.out HB.out); (case s2 => exact Kd.C_below HS1.out HB.out); (case s3 => exact congrArg some HV.out); rintro e wv ⟨rfl, hb⟩; have HBV := Aside0.mk (below_step HB.out hb); have HXV := Aside0.mk (HBX.out.below hb); have hd0 : wv.cell? ⟨gb, 0, none⟩ = some (.slice A0 H.length c0) := (blk_cell HXV.out 0).trans rfl; have hd1 : wv.cell? ⟨gb, 1, none⟩ = some (.slice A1 S.length c1) := (blk_cell HXV.out 1).trans rfl; clear hb))); go_ret2; (exact ⟨HBV.out, .inl ⟨by simp [givenO], rfl⟩⟩)
  | true =>
   cases hi : incr S.length (-1) l with
   | false =>
    (have HI : Aside0 (cool_bits.f 12 H S l = some (0, false)) := ⟨by rw [HBF.out, hi]; rfl⟩); have HII := Aside0.mk hi; clear hi; go_enter Try.func60, Try.ntmps60; (go_wp2_with (first | ((with_reducible refine gate_dst (N := 3) rfl ?_); refine box_event ?hg (N := 3) ?hd (cs := #[.slice A0 H.length c0, .slice A1 S.length c1]) (t := 25) ?hr ?_; (case hd => rfl); (case hg => rfl); (case hr => first | (go_simp; done) | (go_simp; rfl)); intro gb hg w8 hbox hb; have HBX := Aside0.mk (show TBox w8 gb A0 H.length c0 A1 S.length c1 from hbox); have HB := Aside0.mk hb; have hc0 : w8.cell? ⟨gb, 0, none⟩ = some (.slice A0 H.length c0) := (blk_cell hbox 0).trans rfl; have hc1 : w8.cell? ⟨gb, 1, none⟩ = some (.slice A1 S.length c1) := (blk_cell hbox 1).trans rfl; clear hbox hb hg) | (go_at_call 47; (with_reducible refine (cool_valid.calls A0 c0 H A1 c1 S true _ ?s1 HC0.out ?s2 HC1.out ?s3).mono ?_); (case s1 => exact Kd.C_below HS0.out HB.out); (case s2 => exact Kd.C_below HS1.out HB.out); (case s3 => exact congrArg some HV.out); rintro e wv ⟨rfl, hb⟩; have HBV := Aside0.mk (below_step HB.out hb); have HXV := Aside0.mk (HBX.out.below hb); have hd0 : wv.cell? ⟨gb, 0, none⟩ = some (.slice A0 H.length c0) := (blk_cell HXV.out 0).trans rfl; have hd1 : wv.cell? ⟨gb, 1, none⟩ = some (.slice A1 S.length c1) := (blk_cell HXV.out 1).trans rfl; clear hb) | (go_at_call 71; (with_reducible refine (cool_bits.calls 12 A0 c0 H A1 c1 S Al cl l 0 false _ ?s1 HC0.out ?s2 HC1.out ?s3 HCL.out HI.out).mono ?_); (case s1 => exact Kd.C_below HS0.out HBV.out); (case s2 => exact Kd.C_below HS1.out HBV.out); (case s3 => exact Kd.C_below HL.out HBV.out); rintro e wi ⟨rfl, hb⟩; have HBI := Aside0.mk (below_step HBV.out hb); have HXI := Aside0.mk (HXV.out.below hb); have he0 : wi.cell? ⟨gb, 0, none⟩ = some (.slice A0 H.length c0) := (blk_cell HXI.out 0).trans rfl; have he1 : wi.cell? ⟨gb, 1, none⟩ = some (.slice A1 S.length c1) := (blk_cell HXI.out 1).trans rfl; clear hb))); go_ret2; (exact ⟨HBI.out, .inl ⟨by simp [givenO, HII.out], rfl⟩⟩)
   | true =>
    (have HI : Aside0 (cool_bits.f 12 H S l = some ((maskN l : Int), true)) := ⟨by rw [HBF.out, hi]; rfl⟩); have HII := Aside0.mk hi; clear hi; go_enter Try.func60, Try.ntmps60; (go_wp2_with (first | ((with_reducible refine gate_dst (N := 3) rfl ?_); refine box_event ?hg (N := 3) ?hd (cs := #[.slice A0 H.length c0, .slice A1 S.length c1]) (t := 25) ?hr ?_; (case hd => rfl); (case hg => rfl); (case hr => first | (go_simp; done) | (go_simp; rfl)); intro gb hg w8 hbox hb; have HBX := Aside0.mk (show TBox w8 gb A0 H.length c0 A1 S.length c1 from hbox); have HB := Aside0.mk hb; have hc0 : w8.cell? ⟨gb, 0, none⟩ = some (.slice A0 H.length c0) := (blk_cell hbox 0).trans rfl; have hc1 : w8.cell? ⟨gb, 1, none⟩ = some (.slice A1 S.length c1) := (blk_cell hbox 1).trans rfl; clear hbox hb hg) | (go_at_call 47; (with_reducible refine (cool_valid.calls A0 c0 H A1 c1 S true _ ?s1 HC0.out ?s2 HC1.out ?s3).mono ?_); (case s1 => exact Kd.C_below HS0.out HB.out); (case s2 => exact Kd.C_below HS1.out HB.out); (case s3 => exact congrArg some HV.out); rintro e wv ⟨rfl, hb⟩; have HBV := Aside0.mk (below_step HB.out hb); have HXV := Aside0.mk (HBX.out.below hb); have hd0 : wv.cell? ⟨gb, 0, none⟩ = some (.slice A0 H.length c0) := (blk_cell HXV.out 0).trans rfl; have hd1 : wv.cell? ⟨gb, 1, none⟩ = some (.slice A1 S.length c1) := (blk_cell HXV.out 1).trans rfl; clear hb) | (go_at_call 71; (with_reducible refine (cool_bits.calls 12 A0 c0 H A1 c1 S Al cl l (maskN l : Int) true _ ?s1 HC0.out ?s2 HC1.out ?s3 HCL.out HI.out).mono ?_); (case s1 => exact Kd.C_below HS0.out HBV.out); (case s2 => exact Kd.C_below HS1.out HBV.out); (case s3 => exact Kd.C_below HL.out HBV.out); rintro e wi ⟨rfl, hb⟩; have HBI := Aside0.mk (below_step HBV.out hb); have HXI := Aside0.mk (HXV.out.below hb); have he0 : wi.cell? ⟨gb, 0, none⟩ = some (.slice A0 H.length c0) := (blk_cell HXI.out 0).trans rfl; have he1 : wi.cell? ⟨gb, 1, none⟩ = some (.slice A1 S.length c1) := (blk_cell HXI.out 1).trans rfl; clear hb) | (go_at_call 51; (with_reducible refine (buy.calls A0 c0 H A1 c1 S (maskN l) _ ?s1 ?s2).mono ?_); (case s1 => exact Kd.C_below HS0.out HBI.out); (case s2 => exact Kd.C_below HS1.out HBI.out); rintro e wu ⟨B, M, rfl, hB, hM, hT, hb⟩; have HBU := Aside0.mk (below_step HBI.out hb); have HTU := Aside0.mk hT; have HLB := Aside0.mk hB; have HLM := Aside0.mk hM; clear hb hT hB hM))); go_ret2; (exact ⟨HBU.out, .inr ⟨maskN l, B, M, by simp [givenO, HII.out, HV.out], rfl, Nat.le_trans HBI.out.size HLB.out, Nat.le_trans HBI.out.size HLM.out, HTU.out⟩⟩)
theorem given_no (A0 : Option Addr) (c0 : Nat) (H : List S60) (A1 : Option Addr) (c1 : Nat) (S : List S64) (Al : Option Addr) (cl : Nat) (l : List Int) (fine : Bool) (w : World) (hs : Kd.C k60 w A0 H.length H) (hc0 : H.length ≤ c0) (ss : Kd.C k64 w A1 S.length S) (hc1 : S.length ≤ c1) (hl : Kd.C (Kd.int .i64) w Al l.length l) (hcl : l.length ≤ cl) (hgo : givenO H S l fine = none) :
    Calls Try.prog 60 #[.agg #[.slice A0 H.length c0, .slice A1 S.length c1], .slice Al l.length cl, .bool fine] w fun e w' => e = .returned (.tuple #[.pointer none, .int .i64 2]) ∧ Below w.heap.size w w' := by
 refine (given.calls A0 c0 H A1 c1 S Al cl l fine w hs hc0 ss hc1 hl hcl).mono ?_; rintro e w' ⟨hb, ⟨_, rfl⟩ | ⟨C, B, M, h, _⟩⟩
 · exact ⟨rfl, hb⟩
 · rw [hgo] at h; cases h
theorem given_yes (A0 : Option Addr) (c0 : Nat) (H : List S60) (A1 : Option Addr) (c1 : Nat) (S : List S64) (Al : Option Addr) (cl : Nat) (l : List Int) (fine : Bool) (C : Nat) (w : World) (hs : Kd.C k60 w A0 H.length H) (hc0 : H.length ≤ c0) (ss : Kd.C k64 w A1 S.length S) (hc1 : S.length ≤ c1) (hl : Kd.C (Kd.int .i64) w Al l.length l) (hcl : l.length ≤ cl) (hgo : givenO H S l fine = some C) :
    Calls Try.prog 60 #[.agg #[.slice A0 H.length c0, .slice A1 S.length c1], .slice Al l.length cl, .bool fine] w fun e w' => ∃ B M : Nat, e = .returned (.tuple #[.pointer (some ⟨B, 0, none⟩), .int .i64 0]) ∧ w.heap.size ≤ B ∧ w.heap.size ≤ M ∧ Tn w' B M A0 c0 H A1 c1 S C ∧ Below w.heap.size w w' := by
 refine (given.calls A0 c0 H A1 c1 S Al cl l fine w hs hc0 ss hc1 hl hcl).mono ?_; rintro e w' ⟨hb, ⟨h, _⟩ | ⟨C', B, M, h, rfl, h3, h4, h5⟩⟩
 · rw [hgo] at h; cases h
 · rw [hgo] at h; cases h; exact ⟨B, M, rfl, h3, h4, h5, hb⟩
end Go.Proofs.Ytmkdllaagaimlaa.C
end
section
namespace Go.Proofs.Ytmkdllaagaimlaa.C
open Go.RowKit Go.Proofs.YtmkdllaagaimlaaW.PrintWords Go.Proofs.YtmkdllaagaimlaaW.PrintLast Go.Proofs.YtmkdllaagaimlaaW.PrintMore
set_option linter.unusedVariables false
set_option linter.unusedSimpArgs false
def kp1.T : Bool × List (List Nat × List Nat) := (true, [([], []), ([], []), ([], []), ([2], [2]), ([0, 1, 3, 3], [0, 1, 3]), ([4], [4]), ([5], [5]), ([5], [5]), ([6, 4, 0, 1, 2, 3, 4, 5, 6], [6]), ([7, 8, 0, 1, 2, 3, 4, 5, 6, 7, 8], [7])])
def kp1.B : List Nat := [0, 0, 0, 4, 15, 31, 63, 63, 127, 511]
theorem kp1.tab : rtab .any (opsOf Try.f23 1) = kp1.T := by kernel_rfl
theorem kp1.bits : waitsOk kp1.T.2 kp1.B = true := by kernel_rfl
def keepsV (H : List S60) (S : List S64) (l : List Int) (n : Int) : Bool × Int := match givenO H S l (decide (0 ≤ n) && decide (n ≤ 3)) with | none => (false, 2) | some C => (!(brk H S n.toNat C).isSome, 0)
def cool_Keeps.f (H : List S60) (S : List S64) (l : List Int) (n : Int) : Option (Bool × Int) := some (keepsV H S l n)
theorem grown_below2 {w w1 w2 : World} {M : Nat} (h : Below w.heap.size w w1) (hg : w1.grownBy w2 (some M)) (hM : w.heap.size ≤ M) : Below w.heap.size w w2 :=
  ⟨hg.os.trans h.os, hg.tape.trans h.tape, hg.output.trans h.output, Nat.le_trans h.size hg.size, fun k hk => (hg.block k (Nat.lt_of_lt_of_le hk h.size) (fun e => by cases e; omega)).trans (h.block k hk)⟩
theorem failing_f (n : Int) : cool_failing.f n = some (decide (0 ≤ n) && decide (n ≤ 3)) := by unfold cool_failing.f; rw [cool_in_f]; rfl
set_option maxHeartbeats 4000000 in
set_option maxRecDepth 100000 in
theorem cool_Keeps.calls (A0 : Option Addr) (c0 : Nat) (H : List S60) (A1 : Option Addr) (c1 : Nat) (S : List S64) (A2 : Option Addr) (c2 : Nat) (l : List Int) (a2 : Int) (r1 : Bool) (r2 : Int) (w : World) (hs : Kd.C k60 w A0 H.length H) (hc0 : H.length ≤ c0) (ss : Kd.C k64 w A1 S.length S) (hc1 : S.length ≤ c1) (hl : Kd.C (Kd.int .i64) w A2 l.length l) (hc2 : l.length ≤ c2) (h : cool_Keeps.f H S l a2 = some (r1, r2)) :
    Calls Try.prog 23 #[.agg #[.slice A0 H.length c0, .slice A1 S.length c1], .slice A2 l.length c2, .int .i64 a2] w fun e w' => e = .returned (.tuple #[.bool r1, .int .i64 r2]) ∧ Below w.heap.size w w' := by
 have hu25 := Try.underlying25; have HS0 := Aside0.mk hs; have HS1 := Aside0.mk ss; have HS2 := Aside0.mk hl; have HC0 := Aside0.mk hc0; have HC1 := Aside0.mk hc1; have HC2 := Aside0.mk hc2; have HR := Aside0.mk (Option.some.inj h); clear hs ss hl hc0 hc1 hc2 h; obtain ⟨fb, hfb⟩ : ∃ fb, (decide (0 ≤ a2) && decide (a2 ≤ 3)) = fb := ⟨_, rfl⟩; (have HFA : Aside0 (cool_failing.f a2 = some fb) := ⟨by rw [failing_f, hfb]⟩); have HFB := Aside0.mk hfb; clear hfb
 cases hgo : givenO H S l fb with
 | none =>
  have HGO := Aside0.mk hgo; clear hgo; go_enter Try.func23, Try.ntmps23; (go_wp2_with (first | ((with_reducible refine gate_dst (N := 3) rfl ?_); refine box_event ?hg (N := 3) ?hd (cs := #[.slice A0 H.length c0, .slice A1 S.length c1]) (t := 25) ?hr ?_; (case hd => rfl); (case hg => rfl); (case hr => first | (go_simp; done) | (go_simp; rfl)); intro gb hg w8 hbox hb; have HBX := Aside0.mk (show TBox w8 gb A0 H.length c0 A1 S.length c1 from hbox); have HB := Aside0.mk hb; have hc_0 : w8.cell? ⟨gb, 0, none⟩ = some (.slice A0 H.length c0) := (blk_cell hbox 0).trans rfl; have hc_1 : w8.cell? ⟨gb, 1, none⟩ = some (.slice A1 S.length c1) := (blk_cell hbox 1).trans rfl; clear hbox hb hg))); (replace HBX := Aside0.mk (show w8.heap[gb]? = some (.cells #[.slice A0 H.length c0, .slice A1 S.length c1] 25 (0, 0)) from HBX.out)); (refine start_ (n := 10) (S := fun w' => w'.cell? ⟨gb, 0, none⟩ = some (.slice A0 H.length c0) ∧ w'.cell? ⟨gb, 1, none⟩ = some (.slice A1 S.length c1)) (ds := []) #[false, false, false, false, false, false, false, false, false, false] (by kernel_rfl) rfl rfl ⟨hc_0, hc_1⟩ (fun hHeld => ?_); refine with_tabW kp1.tab kp1.bits (fun HT_ HW_ => ?_)); (refine pure_ (i := 1) (N := some 14) (v := ?_) (a' := ?_) #[false, true, false, false, false, false, false, false, false, false] rfl rfl (any_of HT_.out (by kernel_rfl)) (fun _ _ _ h => h) (Or.inl ⟨by rfl, ?_⟩) ?_ ?_); rotate_left
  · intro w'; go_simp; (with_reducible rfl)
  rotate_left
  · simp only [Act.put, List.setIfInBounds_toArray, List.set_cons_zero, List.set_cons_succ, i64_w, i32_w]; rfl
  (refine pure_ (i := 2) (N := some 15) (v := ?_) (a' := ?_) #[false, true, true, false, false, false, false, false, false, false] rfl rfl (any_of HT_.out (by kernel_rfl)) (fun _ _ _ h => h) (Or.inl ⟨by rfl, ?_⟩) ?_ ?_); rotate_left
  · intro w'; go_simp; (with_reducible rfl)
  rotate_left
  · simp only [Act.put, List.setIfInBounds_toArray, List.set_cons_zero, List.set_cons_succ, i64_w, i32_w]; rfl
  (refine take_ (i := 0) (N := some 13) (v := ?_) (a' := ?_) #[true, true, true, false, false, false, false, false, false, false] rfl rfl (take_ofW HT_.out HW_.out (by kernel_rfl)) (fun _ _ _ h => h) (Or.inl ⟨by rfl, ?_⟩) hHeld ?_ ?_); rotate_left
  · rintro w' ⟨s0, s1⟩; go_simp; (with_reducible rfl)
  rotate_left
  · simp only [Act.put, List.setIfInBounds_toArray, List.set_cons_zero, List.set_cons_succ, i64_w, i32_w]; rfl
  (refine one_ (i := 3) (N := some 16) #[true, true, true, true, false, false, false, false, false, false] rfl rfl (one_of HT_.out (by kernel_rfl)) (by decide) (fun K hK => ?_)); (refine goes_ Try.func48 (by kernel_rfl) rfl #[.int .i64 a2] (by rfl) rfl rfl (by (try simp only [List.map_toArray, List.map_cons, List.map_nil]); first | done | rfl | (simp only [List.length_drop, List.length_take]; rfl)) ?_); (with_reducible refine (cool_failing.calls a2 fb _ ?s1).mono ?_); ((case s1 => exact HFA.out)); rintro e w9 ⟨rfl, ⟨nd, rfl⟩⟩; refine ⟨_, rfl, ?_⟩; (refine hK.out _ _ ⟨hc_0, hc_1⟩ (fun hHeld => ?_)); clear hK K; refine norm_ (a' := ?_) ?_ ?_; rotate_left
  · (show Act.put _ (some 16) _ = _); simp only [Act.put, List.setIfInBounds_toArray, List.set_cons_zero, List.set_cons_succ, i64_w, i32_w]; rfl
  (refine one_ (i := 4) (N := some 17) #[true, true, true, true, true, false, false, false, false, false] rfl rfl (one_of HT_.out (by kernel_rfl)) (by decide) (fun K hK => ?_)); (refine goes_ Try.func60 (by kernel_rfl) rfl #[.agg #[.slice A0 H.length c0, .slice A1 S.length c1], .slice A2 l.length c2, .bool fb] (by rfl) rfl rfl (by (try simp only [List.map_toArray, List.map_cons, List.map_nil]); first | done | rfl | (simp only [List.length_drop, List.length_take]; rfl)) ?_); (with_reducible refine (given_no A0 c0 H A1 c1 S A2 c2 l fb  _ ?s1 HC0.out ?s2 HC1.out ?s3 HC2.out HGO.out).mono ?_); ((case s1 => exact Kd.C_drewN (Kd.C_drew (Kd.C_below HS0.out HB.out)) _)); ((case s2 => exact Kd.C_drewN (Kd.C_drew (Kd.C_below HS1.out HB.out)) _)); ((case s3 => exact Kd.C_drewN (Kd.C_drew (Kd.C_below HS2.out HB.out)) _)); rintro e wg ⟨rfl, hb⟩; have HXG := Aside0.mk (blk_below (blk_drewN (blk_drew HBX.out) _) hb); have HBG := Aside0.mk (below_step (pw_below_drewN (below_drew1 HB.out) _) hb); clear hb; refine ⟨_, rfl, ?_⟩; (refine hK.out _ _ ⟨(blk_cell HXG.out 0).trans rfl, (blk_cell HXG.out 1).trans rfl⟩ (fun hHeld => ?_)); clear hK K; refine norm_ (a' := ?_) ?_ ?_; rotate_left
  · (show Act.put _ (some 17) _ = _); simp only [Act.put, List.setIfInBounds_toArray, List.set_cons_zero, List.set_cons_succ, i64_w, i32_w]; rfl
  (refine pure_ (i := 5) (N := some 12) (v := ?_) (a' := ?_) #[true, true, true, true, true, true, false, false, false, false] rfl rfl (any_of HT_.out (by kernel_rfl)) (fun _ _ _ h => h) (Or.inl ⟨by rfl, ?_⟩) ?_ ?_); rotate_left
  · intro w'; go_simp; (with_reducible rfl)
  rotate_left
  · simp only [Act.put, List.setIfInBounds_toArray, List.set_cons_zero, List.set_cons_succ, i64_w, i32_w]; rfl
  (refine pure_ (i := 6) (N := some 18) (v := ?_) (a' := ?_) #[true, true, true, true, true, true, true, false, false, false] rfl rfl (any_of HT_.out (by kernel_rfl)) (fun _ _ _ h => h) (Or.inl ⟨by rfl, ?_⟩) ?_ ?_); rotate_left
  · intro w'; go_simp; (with_reducible rfl)
  rotate_left
  · simp only [Act.put, List.setIfInBounds_toArray, List.set_cons_zero, List.set_cons_succ, i64_w, i32_w]; rfl
  (refine pure_ (i := 7) (N := some 19) (v := ?_) (a' := ?_) #[true, true, true, true, true, true, true, true, false, false] rfl rfl (any_of HT_.out (by kernel_rfl)) (fun _ _ _ h => h) (Or.inl ⟨by rfl, ?_⟩) ?_ ?_); rotate_left
  · intro w'; go_simp; (with_reducible rfl)
  rotate_left
  · simp only [Act.put, List.setIfInBounds_toArray, List.set_cons_zero, List.set_cons_succ, i64_w, i32_w]; rfl
  (refine pure_ (i := 8) (N := some 8) (v := ?_) (a' := ?_) #[true, true, true, true, true, true, true, true, true, false] rfl rfl (any_of HT_.out (by kernel_rfl)) (fun _ _ _ h => h) (Or.inl ⟨by rfl, ?_⟩) ?_ ?_); rotate_left
  · intro w'; go_simp; (with_reducible rfl)
  rotate_left
  · simp only [Act.put, List.setIfInBounds_toArray, List.set_cons_zero, List.set_cons_succ, i64_w, i32_w]; rfl
  (refine pure_ (i := 9) (N := some 9) (v := ?_) (a' := ?_) #[true, true, true, true, true, true, true, true, true, true] rfl rfl (any_of HT_.out (by kernel_rfl)) (fun _ _ _ h => h) (Or.inl ⟨by rfl, ?_⟩) ?_ ?_); rotate_left
  · intro w'; go_simp; (with_reducible rfl)
  rotate_left
  · simp only [Act.put, List.setIfInBounds_toArray, List.set_cons_zero, List.set_cons_succ, i64_w, i32_w]; rfl
  (refine done_ (done_of HT_.out (by kernel_rfl)) ?_); go_wp2; go_ret2; have hr := HR.out; have hfb := HFB.out; have hgo := HGO.out; refine ⟨?_, HBG.out⟩; unfold keepsV at hr; rw [hfb, hgo] at hr; cases hr; rfl
 | some C =>
  have HGO := Aside0.mk hgo; clear hgo; obtain ⟨gv, gf, gi, gC, gl⟩ := givenO_some HGO.out; obtain ⟨v1, v2, v3, v4, v5, v6⟩ := valid_facts gv
  have hn : ∃ n : Nat, a2 = n ∧ n ≤ 3 := ⟨a2.toNat, by
   have := HFB.out; rw [gf] at this; simp at this; omega, by have := HFB.out; rw [gf] at this; simp at this; omega⟩
  obtain ⟨n, rfl, hn3⟩ := hn; have HGD := Aside0.mk v5; have HCB := Aside0.mk v6; (have HH6 := Aside0.mk (show H.length ≤ 100 by omega)); have HCL := Aside0.mk gl; (have HN3 := Aside0.mk (show n ≤ 1000 by omega)); clear gv gf gi gC gl v1 v2 v3 v4 v5 v6; go_enter Try.func23, Try.ntmps23; (go_wp2_with (first | ((with_reducible refine gate_dst (N := 3) rfl ?_); refine box_event ?hg (N := 3) ?hd (cs := #[.slice A0 H.length c0, .slice A1 S.length c1]) (t := 25) ?hr ?_; (case hd => rfl); (case hg => rfl); (case hr => first | (go_simp; done) | (go_simp; rfl)); intro gb hg w8 hbox hb; have HBX := Aside0.mk (show TBox w8 gb A0 H.length c0 A1 S.length c1 from hbox); have HB := Aside0.mk hb; have hc_0 : w8.cell? ⟨gb, 0, none⟩ = some (.slice A0 H.length c0) := (blk_cell hbox 0).trans rfl; have hc_1 : w8.cell? ⟨gb, 1, none⟩ = some (.slice A1 S.length c1) := (blk_cell hbox 1).trans rfl; clear hbox hb hg))); (replace HBX := Aside0.mk (show w8.heap[gb]? = some (.cells #[.slice A0 H.length c0, .slice A1 S.length c1] 25 (0, 0)) from HBX.out)); (refine start_ (n := 10) (S := fun w' => w'.cell? ⟨gb, 0, none⟩ = some (.slice A0 H.length c0) ∧ w'.cell? ⟨gb, 1, none⟩ = some (.slice A1 S.length c1)) (ds := []) #[false, false, false, false, false, false, false, false, false, false] (by kernel_rfl) rfl rfl ⟨hc_0, hc_1⟩ (fun hHeld => ?_); refine with_tabW kp1.tab kp1.bits (fun HT_ HW_ => ?_)); (refine pure_ (i := 1) (N := some 14) (v := ?_) (a' := ?_) #[false, true, false, false, false, false, false, false, false, false] rfl rfl (any_of HT_.out (by kernel_rfl)) (fun _ _ _ h => h) (Or.inl ⟨by rfl, ?_⟩) ?_ ?_); rotate_left
  · intro w'; go_simp; (with_reducible rfl)
  rotate_left
  · simp only [Act.put, List.setIfInBounds_toArray, List.set_cons_zero, List.set_cons_succ, i64_w, i32_w]; rfl
  (refine pure_ (i := 2) (N := some 15) (v := ?_) (a' := ?_) #[false, true, true, false, false, false, false, false, false, false] rfl rfl (any_of HT_.out (by kernel_rfl)) (fun _ _ _ h => h) (Or.inl ⟨by rfl, ?_⟩) ?_ ?_); rotate_left
  · intro w'; go_simp; (with_reducible rfl)
  rotate_left
  · simp only [Act.put, List.setIfInBounds_toArray, List.set_cons_zero, List.set_cons_succ, i64_w, i32_w]; rfl
  (refine take_ (i := 0) (N := some 13) (v := ?_) (a' := ?_) #[true, true, true, false, false, false, false, false, false, false] rfl rfl (take_ofW HT_.out HW_.out (by kernel_rfl)) (fun _ _ _ h => h) (Or.inl ⟨by rfl, ?_⟩) hHeld ?_ ?_); rotate_left
  · rintro w' ⟨s0, s1⟩; go_simp; (with_reducible rfl)
  rotate_left
  · simp only [Act.put, List.setIfInBounds_toArray, List.set_cons_zero, List.set_cons_succ, i64_w, i32_w]; rfl
  (refine one_ (i := 3) (N := some 16) #[true, true, true, true, false, false, false, false, false, false] rfl rfl (one_of HT_.out (by kernel_rfl)) (by decide) (fun K hK => ?_)); (refine goes_ Try.func48 (by kernel_rfl) rfl #[.int .i64 n] (by rfl) rfl rfl (by (try simp only [List.map_toArray, List.map_cons, List.map_nil]); first | done | rfl | (simp only [List.length_drop, List.length_take]; rfl)) ?_); (with_reducible refine (cool_failing.calls n fb _ ?s1).mono ?_); ((case s1 => exact HFA.out)); rintro e w9 ⟨rfl, ⟨nd, rfl⟩⟩; refine ⟨_, rfl, ?_⟩; (refine hK.out _ _ ⟨hc_0, hc_1⟩ (fun hHeld => ?_)); clear hK K; refine norm_ (a' := ?_) ?_ ?_; rotate_left
  · (show Act.put _ (some 16) _ = _); simp only [Act.put, List.setIfInBounds_toArray, List.set_cons_zero, List.set_cons_succ, i64_w, i32_w]; rfl
  (refine one_ (i := 4) (N := some 17) #[true, true, true, true, true, false, false, false, false, false] rfl rfl (one_of HT_.out (by kernel_rfl)) (by decide) (fun K hK => ?_)); (refine goes_ Try.func60 (by kernel_rfl) rfl #[.agg #[.slice A0 H.length c0, .slice A1 S.length c1], .slice A2 l.length c2, .bool fb] (by rfl) rfl rfl (by (try simp only [List.map_toArray, List.map_cons, List.map_nil]); first | done | rfl | (simp only [List.length_drop, List.length_take]; rfl)) ?_); (with_reducible refine (given_yes A0 c0 H A1 c1 S A2 c2 l fb C _ ?s1 HC0.out ?s2 HC1.out ?s3 HC2.out HGO.out).mono ?_); ((case s1 => exact Kd.C_drewN (Kd.C_drew (Kd.C_below HS0.out HB.out)) _)); ((case s2 => exact Kd.C_drewN (Kd.C_drew (Kd.C_below HS1.out HB.out)) _)); ((case s3 => exact Kd.C_drewN (Kd.C_drew (Kd.C_below HS2.out HB.out)) _)); rintro e wg ⟨B, M, rfl, hB, hM, hT, hb⟩; have HXG := Aside0.mk (blk_below (blk_drewN (blk_drew HBX.out) _) hb); have HBG := Aside0.mk (below_step (pw_below_drewN (below_drew1 HB.out) _) hb); clear hb; have HLB := Aside0.mk hB; have HLM := Aside0.mk hM; have HT := Aside0.mk hT; clear hB hM hT; refine ⟨_, rfl, ?_⟩; (refine hK.out _ _ ⟨(blk_cell HXG.out 0).trans rfl, (blk_cell HXG.out 1).trans rfl⟩ (fun hHeld => ?_)); clear hK K; refine norm_ (a' := ?_) ?_ ?_; rotate_left
  · (show Act.put _ (some 17) _ = _); simp only [Act.put, List.setIfInBounds_toArray, List.set_cons_zero, List.set_cons_succ, i64_w, i32_w]; rfl
  (refine pure_ (i := 5) (N := some 12) (v := ?_) (a' := ?_) #[true, true, true, true, true, true, false, false, false, false] rfl rfl (any_of HT_.out (by kernel_rfl)) (fun _ _ _ h => h) (Or.inl ⟨by rfl, ?_⟩) ?_ ?_); rotate_left
  · intro w'; go_simp; (with_reducible rfl)
  rotate_left
  · simp only [Act.put, List.setIfInBounds_toArray, List.set_cons_zero, List.set_cons_succ, i64_w, i32_w]; rfl
  (refine pure_ (i := 6) (N := some 18) (v := ?_) (a' := ?_) #[true, true, true, true, true, true, true, false, false, false] rfl rfl (any_of HT_.out (by kernel_rfl)) (fun _ _ _ h => h) (Or.inl ⟨by rfl, ?_⟩) ?_ ?_); rotate_left
  · intro w'; go_simp; (with_reducible rfl)
  rotate_left
  · simp only [Act.put, List.setIfInBounds_toArray, List.set_cons_zero, List.set_cons_succ, i64_w, i32_w]; rfl
  (refine pure_ (i := 7) (N := some 19) (v := ?_) (a' := ?_) #[true, true, true, true, true, true, true, true, false, false] rfl rfl (any_of HT_.out (by kernel_rfl)) (fun _ _ _ h => h) (Or.inl ⟨by rfl, ?_⟩) ?_ ?_); rotate_left
  · intro w'; go_simp; (with_reducible rfl)
  rotate_left
  · simp only [Act.put, List.setIfInBounds_toArray, List.set_cons_zero, List.set_cons_succ, i64_w, i32_w]; rfl
  (refine pure_ (i := 8) (N := some 8) (v := ?_) (a' := ?_) #[true, true, true, true, true, true, true, true, true, false] rfl rfl (any_of HT_.out (by kernel_rfl)) (fun _ _ _ h => h) (Or.inl ⟨by rfl, ?_⟩) ?_ ?_); rotate_left
  · intro w'; go_simp; (with_reducible rfl)
  rotate_left
  · simp only [Act.put, List.setIfInBounds_toArray, List.set_cons_zero, List.set_cons_succ, i64_w, i32_w]; rfl
  (refine pure_ (i := 9) (N := some 9) (v := ?_) (a' := ?_) #[true, true, true, true, true, true, true, true, true, true] rfl rfl (any_of HT_.out (by kernel_rfl)) (fun _ _ _ h => h) (Or.inl ⟨by rfl, ?_⟩) ?_ ?_); rotate_left
  · intro w'; go_simp; (with_reducible rfl)
  rotate_left
  · simp only [Act.put, List.setIfInBounds_toArray, List.set_cons_zero, List.set_cons_succ, i64_w, i32_w]; rfl
  (refine done_ (done_of HT_.out (by kernel_rfl)) ?_); (go_wp2_with (go_at_call 52; (with_reducible refine (broken.calls B M A0 c0 H A1 c1 S n C _ HT.out HGD.out HCB.out HH6.out HCL.out HN3.out).mono ?_); rintro e w3 ⟨rfl, ht, hg⟩; have HG3 := Aside0.mk hg; clear ht hg)); go_ret2; have hr := HR.out; have hfb := HFB.out; have hgo := HGO.out; refine ⟨?_, grown_below2 HBG.out HG3.out (Nat.le_trans HB.out.size HLM.out)⟩; unfold keepsV at hr; rw [hfb, hgo] at hr; simp only [Int.toNat_natCast, Prod.mk.injEq] at hr; obtain ⟨h1, h2⟩ := hr; subst h1 h2; (cases brk H S n C <;> rfl)
end Go.Proofs.Ytmkdllaagaimlaa.C
end
section
namespace Go.Proofs.Ytmkdllaagaimlaa.C
open Go.RowKit Go.Proofs.YtmkdllaagaimlaaW.PrintWords Go.Proofs.YtmkdllaagaimlaaW.PrintLast Go.Proofs.YtmkdllaagaimlaaW.PrintMore
set_option linter.unusedVariables false
set_option linter.unusedSimpArgs false
def bearsG (H : List S60) (S : List S64) (C : Nat) : Nat → Int × Int
  | 0 => (0, 5)
  | n + 1 => if (brk H S n C).isSome then bearsG H S C n else (n, 0)
def bearsV (H : List S60) (S : List S64) (l : List Int) : Int × Int := match givenO H S l true with | none => (0, 2) | some C => bearsG H S C 4
def cool_Bears.f (H : List S60) (S : List S64) (l : List Int) : Option (Int × Int) := some (bearsV H S l)
set_option maxHeartbeats 4000000 in
set_option maxRecDepth 100000 in
theorem cool_Bears.calls (A0 : Option Addr) (c0 : Nat) (H : List S60) (A1 : Option Addr) (c1 : Nat) (S : List S64) (A2 : Option Addr) (c2 : Nat) (l : List Int) (r1 : Int) (r2 : Int) (w : World) (hs : Kd.C k60 w A0 H.length H) (hc0 : H.length ≤ c0) (ss : Kd.C k64 w A1 S.length S) (hc1 : S.length ≤ c1) (hl : Kd.C (Kd.int .i64) w A2 l.length l) (hc2 : l.length ≤ c2) (h : cool_Bears.f H S l = some (r1, r2)) :
    Calls Try.prog 39 #[.agg #[.slice A0 H.length c0, .slice A1 S.length c1], .slice A2 l.length c2] w fun e w' => e = .returned (.tuple #[.int .i64 r1, .int .i64 r2]) ∧ Below w.heap.size w w' := by
 have hu25 := Try.underlying25; have HS0 := Aside0.mk hs; have HS1 := Aside0.mk ss; have HS2 := Aside0.mk hl; have HC0 := Aside0.mk hc0; have HC1 := Aside0.mk hc1; have HC2 := Aside0.mk hc2; have HR := Aside0.mk (Option.some.inj h); clear hs ss hl hc0 hc1 hc2 h
 cases hgo : givenO H S l true with
 | none =>
  have HGO := Aside0.mk hgo; clear hgo; go_enter Try.func39, Try.ntmps39; (go_wp2_with (first | ((with_reducible refine gate_dst (N := 2) rfl ?_); refine box_event ?hg (N := 2) ?hd (cs := #[.slice A0 H.length c0, .slice A1 S.length c1]) (t := 25) ?hr ?_; (case hd => rfl); (case hg => rfl); (case hr => first | (go_simp; done) | (go_simp; rfl)); intro gb hg w8 hbox hb; have HBX := Aside0.mk (show TBox w8 gb A0 H.length c0 A1 S.length c1 from hbox); have HB := Aside0.mk hb; have hc_0 : w8.cell? ⟨gb, 0, none⟩ = some (.slice A0 H.length c0) := (blk_cell hbox 0).trans rfl; have hc_1 : w8.cell? ⟨gb, 1, none⟩ = some (.slice A1 S.length c1) := (blk_cell hbox 1).trans rfl; clear hbox hb hg) | (go_at_call 60; (with_reducible refine (given_no A0 c0 H A1 c1 S A2 c2 l true  _ ?s1 HC0.out ?s2 HC1.out ?s3 HC2.out HGO.out).mono ?_); (case s1 => exact Kd.C_below HS0.out HB.out); (case s2 => exact Kd.C_below HS1.out HB.out); (case s3 => exact Kd.C_below HS2.out HB.out); rintro e wg ⟨rfl, hb⟩; have HBG := Aside0.mk (below_step HB.out hb); clear hb))); go_ret2; have hr := HR.out; have hgo := HGO.out; refine ⟨?_, HBG.out⟩; unfold bearsV at hr; rw [hgo] at hr; cases hr; rfl
 | some C =>
  have HGO := Aside0.mk hgo; clear hgo; obtain ⟨gv, gf, gi, gC, gl⟩ := givenO_some HGO.out; obtain ⟨v1, v2, v3, v4, v5, v6⟩ := valid_facts gv; have HGD := Aside0.mk v5; have HCB := Aside0.mk v6; (have HH6 := Aside0.mk (show H.length ≤ 100 by omega)); have HCL := Aside0.mk gl
  have HRR : Aside0 (bearsG H S C 4 = (r1, r2)) := ⟨by
   have hr := HR.out; unfold bearsV at hr; rw [HGO.out] at hr
   exact hr⟩
  clear gv gf gi gC gl v1 v2 v3 v4 v5 v6; go_enter Try.func39, Try.ntmps39; (go_wp2_with (first | ((with_reducible refine gate_dst (N := 2) rfl ?_); refine box_event ?hg (N := 2) ?hd (cs := #[.slice A0 H.length c0, .slice A1 S.length c1]) (t := 25) ?hr ?_; (case hd => rfl); (case hg => rfl); (case hr => first | (go_simp; done) | (go_simp; rfl)); intro gb hg w8 hbox hb; have HBX := Aside0.mk (show TBox w8 gb A0 H.length c0 A1 S.length c1 from hbox); have HB := Aside0.mk hb; have hc_0 : w8.cell? ⟨gb, 0, none⟩ = some (.slice A0 H.length c0) := (blk_cell hbox 0).trans rfl; have hc_1 : w8.cell? ⟨gb, 1, none⟩ = some (.slice A1 S.length c1) := (blk_cell hbox 1).trans rfl; clear hbox hb hg) | (go_at_call 60; (with_reducible refine (given_yes A0 c0 H A1 c1 S A2 c2 l true C _ ?s1 HC0.out ?s2 HC1.out ?s3 HC2.out HGO.out).mono ?_); (case s1 => exact Kd.C_below HS0.out HB.out); (case s2 => exact Kd.C_below HS1.out HB.out); (case s3 => exact Kd.C_below HS2.out HB.out); rintro e wg ⟨B, M, rfl, hB, hM, hT, hb⟩; have HBG := Aside0.mk (below_step HB.out hb); have HLB := Aside0.mk hB; have HLM := Aside0.mk (Nat.le_trans HB.out.size hM); have HT := Aside0.mk hT; clear hB hM hT hb))); (go_loopg [8] 4 (fun kq v8 wr => v8 = .int .i64 ((kq : Int) - 1) ∧ Aside0 (kq ≤ 4 ∧ bearsG H S C kq = (r1, r2)) ∧ Aside0 (Tn wr B M A0 c0 H A1 c1 S C) ∧ Aside0 (Below w.heap.size w wr))); (case atStart => exact ⟨rfl, Aside0.mk ⟨Nat.le_refl _, HRR.out⟩, HT, HBG⟩)
  case round =>
   obtain ⟨rfl, HK, HT2, HB2⟩ := hrel; (rcases gk with _ | n)
   · (have hc' : decide (((0 : Nat) : Int) - 1 ≥ 0) = false := by decide); go_wp2; go_ret2; have hk := HK.out.2; unfold bearsG at hk; cases hk; exact ⟨rfl, HB2.out⟩
   · (have hc' : decide (((n + 1 : Nat) : Int) - 1 ≥ 0) = true := by simp); (have he : ((n + 1 : Nat) : Int) - 1 = (n : Int) := by omega); rw [he] at hc' ⊢; (have hw : wrap64 ((n : Int) - 1) = (n : Int) - 1 := wrap64_of _ (by omega) (by have := HK.out.1; omega)); (have HN := Aside0.mk (show n ≤ 1000 by have := HK.out.1; omega)); have hbc := broken.calls B M A0 c0 H A1 c1 S n C _ HT2.out HGD.out HCB.out HH6.out HCL.out HN.out; obtain ⟨bi, hbi⟩ : ∃ bi, brkI H S n C = bi := ⟨_, rfl⟩; rw [hbi] at hbc; clear hbi
     cases hbk : (brk H S n C).isSome with
     | false =>
      rw [hbk] at hbc; have HBK := Aside0.mk hbk; clear hbk; (go_wp2_with (go_at_call 52; (with_reducible refine hbc.mono ?_); rintro e w3 ⟨rfl, ht, hg⟩; have HT3 := Aside0.mk ht; have HG3 := Aside0.mk hg; clear ht hg)); go_ret2; have hk := HK.out.2; unfold bearsG at hk; rw [HBK.out] at hk; cases hk; exact ⟨rfl, grown_below2 HB2.out HG3.out HLM.out⟩
     | true =>
      rw [hbk] at hbc; have HBK := Aside0.mk hbk; clear hbk; (go_wp2_with (go_at_call 52; (with_reducible refine hbc.mono ?_); rintro e w3 ⟨rfl, ht, hg⟩; have HT3 := Aside0.mk ht; have HG3 := Aside0.mk hg; clear ht hg)); go_roundg n; (case measure => omega)
      case rel =>
       (refine ⟨congrArg (Value.int .i64) hw, Aside0.mk ⟨by have := HK.out.1; omega, ?_⟩, HT3, Aside0.mk (grown_below2 HB2.out HG3.out HLM.out)⟩); have hk := HK.out.2; unfold bearsG at hk; rw [HBK.out] at hk; exact hk
end Go.Proofs.Ytmkdllaagaimlaa.C
end
section
namespace Go.Proofs.Ytmkdllaagaimlaa.C
open Go.RowKit Go.Proofs.YtmkdllaagaimlaaW.PrintWords Go.Proofs.YtmkdllaagaimlaaW.PrintLast Go.Proofs.YtmkdllaagaimlaaW.PrintMore
set_option linter.unusedVariables false
set_option linter.unusedSimpArgs false
def cmpL : List Int → List Int → Int
  | [], [] => 0
  | [], _ :: _ => -1
  | _ :: _, [] => 1
  | x :: r, y :: s => if cmpI x y = 0 then cmpL r s else cmpI x y
def cmC (a : Int) (l : List Int) (b : Int) (m : List Int) : Nat → Int
  | 0 => cmpI a b
  | 1 => cmpI l.length m.length
  | _ => cmpL l m
theorem costs_f (a : Int) (l : List Int) (b : Int) (m : List Int) : cool_choice_costs.f a l b m = some (cmC a l b m 0) := by
 unfold cool_choice_costs.f; rw [cmp_f]; rfl
theorem many_f (a : Int) (l : List Int) (b : Int) (m : List Int) : cool_choice_many.f a l b m = some (cmC a l b m 1) := by
 unfold cool_choice_many.f; rw [cmp_f]; rfl
theorem compare_l0 (l m : List Int) (hl : l.length ≤ 10) : ∀ (d i : Nat), i + d = l.length → ∀ k, d < k → i ≤ m.length →
    slices_Compare_int_int.l0 k l m l (l.length : Int) (i : Int) = some (cmpL (l.drop i) (m.drop i)) := by
 intro d
 induction d with
 | zero =>
  intro i hi k hk him; (obtain ⟨k, rfl⟩ : ∃ n, k = n + 1 := ⟨k - 1, by omega⟩); simp only [slices_Compare_int_int.l0]; (rw [if_neg (by omega), List.drop_eq_nil_of_le (show l.length ≤ i by omega)]); by_cases hlt : l.length < m.length
  · rw [if_pos (by omega), rd_drop (show i < m.length by omega)]; rfl
  · rw [if_neg (by omega), List.drop_eq_nil_of_le (show m.length ≤ i by omega)]; rfl
 | succ d ih =>
  intro i hi k hk him; (obtain ⟨k, rfl⟩ : ∃ n, k = n + 1 := ⟨k - 1, by omega⟩); simp only [slices_Compare_int_int.l0]; (rw [if_pos (by omega), if_pos (by omega), if_pos (by omega), rd_drop (show i < l.length by omega)]); (have hw : wrap64 ((i : Int) + 1) = ((i + 1 : Nat) : Int) := by rw [wrap64_of _ (by omega) (by omega)]; omega); by_cases hlt : i < m.length
  · (rw [if_neg (by omega), if_pos (by omega), rd_drop hlt, cmp_f]); simp only [Option.bind_some, cmpL, hw]; by_cases hc : cmpI (rd l (i : Int)) (rd m (i : Int)) = 0
    · rw [if_pos hc, if_pos hc, ih (i + 1) (by omega) k (by omega) hlt]
    · rw [if_neg hc, if_neg hc]
  · rw [if_pos (by omega), List.drop_eq_nil_of_le (show m.length ≤ i by omega)]; rfl
theorem order_f (a : Int) (l : List Int) (b : Int) (m : List Int) (hl : l.length ≤ 10) : cool_choice_order.f 11 a l b m = some (cmC a l b m 2) := by
 unfold cool_choice_order.f slices_Compare_int_int.f; (have h := compare_l0 l m hl l.length 0 (by omega) 11 (by omega) (by omega)); simp only [List.drop_zero] at h; have h' : slices_Compare_int_int.l0 11 l m l (l.length : Int) 0 = some (cmpL l m) := h; rw [h']; rfl
def bfF (a : Int) (l : List Int) (b : Int) (m : List Int) : Nat → Nat → Bool
  | 0, _ => false
  | d + 1, i => if cmC a l b m i = 0 then bfF a l b m d (i + 1) else decide (cmC a l b m i < 0)
def beforeB (a : Int) (l : List Int) (b : Int) (m : List Int) : Bool := bfF a l b m 3 0
set_option maxHeartbeats 4000000 in
set_option maxRecDepth 100000 in
theorem idx0 (x y z : Value) (W : World) : (Instr.index 117 (.agg #[x, y, z]) (.int .i64 0)).run Try.prog W = .ok x W := by rfl
set_option maxRecDepth 100000 in
theorem idx1 (x y z : Value) (W : World) : (Instr.index 117 (.agg #[x, y, z]) (.int .i64 1)).run Try.prog W = .ok y W := by rfl
set_option maxRecDepth 100000 in
theorem idx2 (x y z : Value) (W : World) : (Instr.index 117 (.agg #[x, y, z]) (.int .i64 2)).run Try.prog W = .ok z W := by rfl
set_option maxHeartbeats 4000000 in
set_option maxRecDepth 100000 in
theorem before.calls (a : Int) (A : Option Addr) (c : Nat) (l : List Int) (b : Int) (A' : Option Addr) (c' : Nat) (m : List Int) (w : World) (hl : Kd.C (Kd.int .i64) w A l.length l) (hcl : l.length ≤ c) (hm : Kd.C (Kd.int .i64) w A' m.length m) (hcm : m.length ≤ c') (hl10 : l.length ≤ 10) :
    Calls Try.prog 50 #[.agg #[.int .i64 a, .slice A l.length c], .agg #[.int .i64 b, .slice A' m.length c']] w fun e w' => e = .returned (.bool (beforeB a l b m)) ∧ Below w.heap.size w w' := by
 have hu83 := Try.underlying83; (have hmf : ∀ (fn : Fn) (first cap : Array Value) (w : World), (Instr.makeFunc fn first cap).run Try.prog w = .ok (.func fn first cap) w := fun _ _ _ _ => rfl); have HL := Aside0.mk hl; have HM := Aside0.mk hm; have HCL := Aside0.mk hcl; have HCM := Aside0.mk hcm; have HLL := Aside0.mk hl10; clear hl hm hcl hcm hl10; go_enter Try.func50, Try.ntmps50; (go_wp2_with (first | ((with_reducible refine gate_dst (N := 2) rfl ?_); refine box_event ?hg (N := 2) ?hd (cs := #[.int .i64 a, .slice A l.length c]) (t := 83) ?hr ?_; (case hd => rfl); (case hg => rfl); (case hr => first | (go_simp; done) | (go_simp; rfl)); intro gx hg w8 hbox hb; have HB := Aside0.mk hb; have HXX := Aside0.mk hbox; have hx_0 : w8.cell? ⟨gx, 0, none⟩ = some (.int .i64 a) := (blk_cell hbox 0).trans rfl; have hx_1 : w8.cell? ⟨gx, 1, none⟩ = some (.slice A l.length c) := (blk_cell hbox 1).trans rfl; clear hbox hb hg) | ((with_reducible refine gate_dst (N := 3) rfl ?_); refine box_event ?hg (N := 3) ?hd (cs := #[.int .i64 b, .slice A' m.length c']) (t := 83) ?hr ?_; (case hd => rfl); (case hg => rfl); (case hr => first | (go_simp; done) | (go_simp; rfl)); intro gy hg w9 hbox hb; have n0_ := Aside0.mk (below_step HB.out hb); clear HB; have HB := n0_; clear n0_; have hq0 : w9.cell? ⟨gx, 0, none⟩ = some (.int .i64 a) := (blk_cell (blk_below HXX.out hb) 0).trans rfl; have hq1 : w9.cell? ⟨gx, 1, none⟩ = some (.slice A l.length c) := (blk_cell (blk_below HXX.out hb) 1).trans rfl; clear hx_0 hx_1; have HYY := Aside0.mk hbox; have hy_0 : w9.cell? ⟨gy, 0, none⟩ = some (.int .i64 b) := (blk_cell hbox 0).trans rfl; have hy_1 : w9.cell? ⟨gy, 1, none⟩ = some (.slice A' m.length c') := (blk_cell hbox 1).trans rfl; clear hbox hb hg))); (go_loopg [15] 3 (fun kq v15 wr => ∃ i : Nat, v15 = .int .i64 i ∧ kq + i = 3 ∧ Aside0 (bfF a l b m kq i = beforeB a l b m) ∧ Aside0 (Below w.heap.size w wr) ∧ Aside0 (wr.heap[gy]? = some (.cells #[.int .i64 b, .slice A' m.length c'] 83 (0, 0))))); (case atStart => exact ⟨0, rfl, rfl, Aside0.mk rfl, HB, HYY⟩)
 case round =>
  obtain ⟨i, rfl, hki, HF, HB2, HY2⟩ := hrel; have hy0 := (blk_cell HY2.out 0).trans rfl; have hy1 := (blk_cell HY2.out 1).trans rfl; (rcases gk with _ | d)
  · (obtain rfl : i = 3 := by omega); (have hc : decide (((3 : Nat) : Int) < 3) = false := by decide); go_wp2; go_ret; (exact ⟨by rw [← HF.out]; rfl, HB2.out⟩)
  · (have hc : decide ((i : Int) < 3) = true := by simp; omega); (have hi3 : i = 0 ∨ i = 1 ∨ i = 2 := by omega); (rcases hi3 with hi | hi | hi)
    · obtain rfl : i = 0 := hi; have hix := idx0; obtain ⟨n, hn⟩ : ∃ n, cmC a l b m 0 = n := ⟨_, rfl⟩; have HN := Aside0.mk hn; have hf := HF.out; unfold bfF at hf; rw [hn] at hf; clear hn; by_cases hz : n = 0
      · subst hz; rw [if_pos rfl] at hf; have HF2 := Aside0.mk hf; clear hf; (go_wp2_with (first | (go_at_call 81; (with_reducible refine (cool_choice_costs.calls a A c l b A' c' m 0 _ ?s1 HCL.out ?s2 HCM.out ?s3).mono ?_); (case s1 => exact Kd.C_below HL.out HB2.out); (case s2 => exact Kd.C_below HM.out HB2.out); (case s3 => exact (costs_f a l b m).trans (congrArg some HN.out)); rintro e w7 ⟨rfl, hb⟩; have HB3 := Aside0.mk (below_step HB2.out hb); have HY3 := Aside0.mk (blk_below HY2.out hb); clear hb))); go_roundg d; (case measure => omega); (case rel => exact ⟨0 + 1, rfl, by omega, HF2, HB3, HY3⟩)
      · (have hz0 : decide (n = 0) = false := by simp [hz]); rw [if_neg hz] at hf; have HF2 := Aside0.mk hf; clear hf; (go_wp2_with (first | (go_at_call 81; (with_reducible refine (cool_choice_costs.calls a A c l b A' c' m n _ ?s1 HCL.out ?s2 HCM.out ?s3).mono ?_); (case s1 => exact Kd.C_below HL.out HB2.out); (case s2 => exact Kd.C_below HM.out HB2.out); (case s3 => exact (costs_f a l b m).trans (congrArg some HN.out)); rintro e w7 ⟨rfl, hb⟩; have HB3 := Aside0.mk (below_step HB2.out hb); have HY3 := Aside0.mk (blk_below HY2.out hb); clear hb))); go_ret; refine ⟨?_, HB3.out⟩; rw [← HF2.out]; rfl
    · obtain rfl : i = 1 := hi; have hix := idx1; obtain ⟨n, hn⟩ : ∃ n, cmC a l b m 1 = n := ⟨_, rfl⟩; have HN := Aside0.mk hn; have hf := HF.out; unfold bfF at hf; rw [hn] at hf; clear hn; by_cases hz : n = 0
      · subst hz; rw [if_pos rfl] at hf; have HF2 := Aside0.mk hf; clear hf; (go_wp2_with (first | (go_at_call 82; (with_reducible refine (cool_choice_many.calls a A c l b A' c' m 0 _ ?s1 HCL.out ?s2 HCM.out ?s3).mono ?_); (case s1 => exact Kd.C_below HL.out HB2.out); (case s2 => exact Kd.C_below HM.out HB2.out); (case s3 => exact (many_f a l b m).trans (congrArg some HN.out)); rintro e w7 ⟨rfl, hb⟩; have HB3 := Aside0.mk (below_step HB2.out hb); have HY3 := Aside0.mk (blk_below HY2.out hb); clear hb))); go_roundg d; (case measure => omega); (case rel => exact ⟨1 + 1, rfl, by omega, HF2, HB3, HY3⟩)
      · (have hz0 : decide (n = 0) = false := by simp [hz]); rw [if_neg hz] at hf; have HF2 := Aside0.mk hf; clear hf; (go_wp2_with (first | (go_at_call 82; (with_reducible refine (cool_choice_many.calls a A c l b A' c' m n _ ?s1 HCL.out ?s2 HCM.out ?s3).mono ?_); (case s1 => exact Kd.C_below HL.out HB2.out); (case s2 => exact Kd.C_below HM.out HB2.out); (case s3 => exact (many_f a l b m).trans (congrArg some HN.out)); rintro e w7 ⟨rfl, hb⟩; have HB3 := Aside0.mk (below_step HB2.out hb); have HY3 := Aside0.mk (blk_below HY2.out hb); clear hb))); go_ret; refine ⟨?_, HB3.out⟩; rw [← HF2.out]; rfl
    · obtain rfl : i = 2 := hi; have hix := idx2; obtain ⟨n, hn⟩ : ∃ n, cmC a l b m 2 = n := ⟨_, rfl⟩; have HN := Aside0.mk hn; have hf := HF.out; unfold bfF at hf; rw [hn] at hf; clear hn; by_cases hz : n = 0
      · subst hz; rw [if_pos rfl] at hf; have HF2 := Aside0.mk hf; clear hf; (go_wp2_with (first | (go_at_call 83; (with_reducible refine (cool_choice_order.calls 11 a A c l b A' c' m 0 _ ?s1 HCL.out ?s2 HCM.out ?s3).mono ?_); (case s1 => exact Kd.C_below HL.out HB2.out); (case s2 => exact Kd.C_below HM.out HB2.out); (case s3 => exact (order_f a l b m HLL.out).trans (congrArg some HN.out)); rintro e w7 ⟨rfl, hb⟩; have HB3 := Aside0.mk (below_step HB2.out hb); have HY3 := Aside0.mk (blk_below HY2.out hb); clear hb))); go_roundg d; (case measure => omega); (case rel => exact ⟨2 + 1, rfl, by omega, HF2, HB3, HY3⟩)
      · (have hz0 : decide (n = 0) = false := by simp [hz]); rw [if_neg hz] at hf; have HF2 := Aside0.mk hf; clear hf; (go_wp2_with (first | (go_at_call 83; (with_reducible refine (cool_choice_order.calls 11 a A c l b A' c' m n _ ?s1 HCL.out ?s2 HCM.out ?s3).mono ?_); (case s1 => exact Kd.C_below HL.out HB2.out); (case s2 => exact Kd.C_below HM.out HB2.out); (case s3 => exact (order_f a l b m HLL.out).trans (congrArg some HN.out)); rintro e w7 ⟨rfl, hb⟩; have HB3 := Aside0.mk (below_step HB2.out hb); have HY3 := Aside0.mk (blk_below HY2.out hb); clear hb))); go_ret; refine ⟨?_, HB3.out⟩; rw [← HF2.out]; rfl
end Go.Proofs.Ytmkdllaagaimlaa.C
end
section
namespace Go.Proofs.Ytmkdllaagaimlaa.C
open Go.RowKit Go.Proofs.YtmkdllaagaimlaaW.PrintWords Go.Proofs.YtmkdllaagaimlaaW.PrintLast Go.Proofs.YtmkdllaagaimlaaW.PrintMore
set_option linter.unusedVariables false
set_option linter.unusedSimpArgs false
def bs12.T : Bool × List (List Nat × List Nat) := (true, [([], []), ([0], [0]), ([], []), ([2], [2]), ([], []), ([3, 4], [3, 4]), ([5], [5]), ([6], [6]), ([1, 7], [1, 7]), ([0, 1, 2, 3, 4, 5, 6, 7, 8], []), ([9, 8, 0, 1, 2, 3, 4, 5, 6, 7, 8], [8, 9])])
def bs12.B : List Nat := [0, 1, 0, 4, 0, 28, 60, 124, 255, 511, 1023]
theorem bs12.tab : rtab .any (opsOf Try.f15 12) = bs12.T := by kernel_rfl
theorem bs12.bits : waitsOk bs12.T.2 bs12.B = true := by kernel_rfl
def costN (S : List S64) (l : List Int) : Int := (l.map fun x => (rd_T64 S x).f0).sum
def bestStep (H : List S60) (S : List S64) (n : Nat) (st : Option (Int × List Int)) (s : Nat) : Option (Int × List Int) :=
  if (match st with | some (bc, bl) => !beforeB (costN S (memI s)) (memI s) bc bl | none => false) = true then st
  else if (brk H S n s).isSome then st else some (costN S (memI s), memI s)
def bestN (H : List S60) (S : List S64) (n : Nat) : Nat → Option (Int × List Int)
  | 0 => none
  | s + 1 => bestStep H S n (bestN H S n s) s
def bestV (H : List S60) (S : List S64) (n : Int) : List Int × Int × Int :=
  if (validB H S && (decide (0 ≤ n) && decide (n ≤ 3))) = true then (match bestN H S n.toNat (2 ^ S.length) with | none => ([], 0, 5) | some (c, l) => (l, c, 0)) else ([], 0, 2)
def cool_Best.f (H : List S60) (S : List S64) (n : Int) : Option (List Int × Int × Int) := some (bestV H S n)
theorem RI_keep {w w1 : World} {base : Nat} {ok : Nat → Prop} {v : Value} {xs : List Int} (h : Kd.R (Kd.int .i64) 3 w base ok v xs) (hm : ∀ k, k < w.heap.size → (∃ cs, w.heap[k]? = some (.cells cs 3 (0, 0))) → w1.heap[k]? = w.heap[k]?) : Kd.R (Kd.int .i64) 3 w1 base ok v xs := by
 (refine Kd.R_mono (Kd.R_move (Kd.R_bound h) fun k hk => ?_) (fun k hk => hk.1)); obtain ⟨_, _, h1, q, hq, hc⟩ := hk; have hq' : q ∈ [3] := hq; have : q = 3 := List.mem_singleton.1 hq'; subst this; exact hm k h1 hc
theorem RI_below {w w1 : World} {base : Nat} {ok : Nat → Prop} {v : Value} {xs : List Int} (h : Kd.R (Kd.int .i64) 3 w base ok v xs) (hb : Below w.heap.size w w1) : Kd.R (Kd.int .i64) 3 w1 base ok v xs := RI_keep h fun k hk _ => hb.block k hk
theorem RI_grown {w w1 : World} {base : Nat} {ok : Nat → Prop} {v : Value} {xs : List Int} {g t : Nat} {cs : Array Value} (h : Kd.R (Kd.int .i64) 3 w base ok v xs) (hg : w.grownBy w1 (some g)) (hb : w.heap[g]? = some (.cells cs t (0, 0))) (ht : t ≠ 3) : Kd.R (Kd.int .i64) 3 w1 base ok v xs := RI_keep h fun k hk hc => hg.block k hk (fun e => by
  cases e
  obtain ⟨cs', hc⟩ := hc
  rw [hc] at hb
  cases hb
  exact ht rfl)
theorem RI_set {w : World} {base : Nat} {ok : Nat → Prop} {v : Value} {xs : List Int} {g t : Nat} {cs : Array Value} (h : Kd.R (Kd.int .i64) 3 w base ok v xs) (hb : w.heap[g]? = some (.cells cs t (0, 0))) (ht : t ≠ 3) (j : Nat) (u : Value) : Kd.R (Kd.int .i64) 3 (w.setCell ⟨g, j, none⟩ u) base ok v xs := RI_keep h fun k hk hc => Below.heap_setCell w ⟨g, j, none⟩ u k (fun e => by
  obtain ⟨cs', hc⟩ := hc
  have e' : k = g := e
  subst e'
  rw [hc] at hb
  cases hb
  exact ht rfl)
theorem rd_mem {L : List Int} {i : Nat} (h : i < L.length) : rd L (i : Int) ∈ L := by
 (have : rd L (i : Int) = L[i] := by simp [rd, List.getD_eq_getElem?_getD, List.getElem?_eq_getElem h]); rw [this]; exact List.getElem_mem h
theorem site_cost {H : List S60} {S : List S64} (hv : validB H S = true) {j : Nat} (hj : j < S.length) : 0 ≤ (rd_T64 S (j : Int)).f0 ∧ (rd_T64 S (j : Int)).f0 ≤ 1000000 := by
 unfold validB at hv; simp only [Bool.and_eq_true, decide_eq_true_eq, List.all_eq_true] at hv; (have h := hv.2 (rd_T64 S (j : Int)) (by simp [rd_T64, List.getD_eq_getElem?_getD, List.getElem?_eq_getElem hj])); simp only [siteB, Bool.and_eq_true, decide_eq_true_eq] at h; exact h.1.1.1
theorem cost_bd {H : List S60} {S : List S64} (hv : validB H S = true) : ∀ (l : List Int), (∀ x ∈ l, ∃ j : Nat, x = j ∧ j < S.length) → l.length ≤ 10 → 0 ≤ costN S l ∧ costN S l ≤ 10000000 := by
 intro l hl h10
 have : 0 ≤ costN S l ∧ costN S l ≤ 1000000 * l.length := by
  clear h10
  induction l with
  | nil => simp [costN]
  | cons x r ih =>
   (have h1 := ih (fun y hy => hl y (by simp [hy]))); (obtain ⟨j, rfl, hj⟩ := hl x (by simp)); have h2 := site_cost hv hj; simp only [costN, List.map_cons, List.sum_cons, List.length_cons] at h1 ⊢; omega
 omega
theorem cost_take (S : List S64) {L : List Int} {i : Nat} (h : i < L.length) : costN S (L.take (i + 1)) = costN S (L.take i) + (rd_T64 S (rd L (i : Int))).f0 := by
 (have e : rd L (i : Int) = L[i] := by simp [rd, List.getD_eq_getElem?_getD, List.getElem?_eq_getElem h]); rw [e, List.take_add_one, List.getElem?_eq_getElem h]; unfold costN; rw [List.map_append, List.sum_append]; simp only [Option.toList_some, List.map_cons, List.map_nil, List.sum_cons, List.sum_nil, Int.add_zero]
theorem grown_set1 (w : World) (g : Nat) (u : Value) : w.grownBy (w.drew.setCell ⟨g, 0, none⟩ u) (some g) :=
  ⟨rfl, rfl, rfl, by simp [World.setCell], fun k hk hne => (Below.heap_setCell w.drew ⟨g, 0, none⟩ u k (fun e => hne (by rw [e])))⟩
theorem shl_pow2 : ∀ x : Nat, x ≤ 10 → wrap64 (2 ^ min x 64) = ((2 ^ x : Nat) : Int) := by
 intro x hx; (have h : 2 ^ x ≤ 2 ^ 10 := Nat.pow_le_pow_right (by decide) hx); (have e : ((2 ^ x : Nat) : Int) = (2 : Int) ^ x := by simp); (rw [Nat.min_eq_left (by omega), ← e]); generalize 2 ^ x = y at h ⊢; (exact wrap64_of _ (by omega) (by omega))
set_option maxHeartbeats 4000000 in
set_option maxRecDepth 100000 in
theorem cool_Best.calls (A0 : Option Addr) (c0 : Nat) (H : List S60) (A1 : Option Addr) (c1 : Nat) (S : List S64) (a2 : Int) (r1 : List Int) (r2 r3 : Int) (w : World) (hs : Kd.C k60 w A0 H.length H) (hc0 : H.length ≤ c0) (ss : Kd.C k64 w A1 S.length S) (hc1 : S.length ≤ c1) (h : cool_Best.f H S a2 = some (r1, r2, r3)) :
    Calls Try.prog 15 #[.agg #[.slice A0 H.length c0, .slice A1 S.length c1], .int .i64 a2] w fun e w' => ∃ v : Value, e = .returned (.tuple #[v, .int .i64 r2, .int .i64 r3]) ∧ Kd.R (Kd.int .i64) 3 w' w.heap.size (fun _ => True) v r1 ∧ Below w.heap.size w w' := by
 have hu25 := Try.underlying25; have hu83 := Try.underlying83; have HS0 := Aside0.mk hs; have HS1 := Aside0.mk ss; have HC0 := Aside0.mk hc0; have HC1 := Aside0.mk hc1; have HR := Aside0.mk (Option.some.inj h); clear hs ss hc0 hc1 h
 cases hv : validB H S with
 | false =>
  have HV := Aside0.mk hv; clear hv; go_enter Try.func15, Try.ntmps15; (go_wp2_with (first | ((with_reducible refine gate_dst (N := 2) rfl ?_); refine box_event ?hg (N := 2) ?hd (cs := #[.slice A0 H.length c0, .slice A1 S.length c1]) (t := 25) ?hr ?_; (case hd => rfl); (case hg => rfl); (case hr => first | (go_simp; done) | (go_simp; rfl)); intro gb hg w8 hbox hb; have HBX := Aside0.mk (show TBox w8 gb A0 H.length c0 A1 S.length c1 from hbox); have HB := Aside0.mk hb; have hc_0 : w8.cell? ⟨gb, 0, none⟩ = some (.slice A0 H.length c0) := (blk_cell hbox 0).trans rfl; have hc_1 : w8.cell? ⟨gb, 1, none⟩ = some (.slice A1 S.length c1) := (blk_cell hbox 1).trans rfl; clear hbox hb hg) | (go_at_call 47; (with_reducible refine (cool_valid.calls A0 c0 H A1 c1 S false _ ?s1 HC0.out ?s2 HC1.out ?s3).mono ?_); (case s1 => exact Kd.C_below HS0.out HB.out); (case s2 => exact Kd.C_below HS1.out HB.out); (case s3 => exact congrArg some HV.out); rintro e wv ⟨rfl, hb⟩; have HBV := Aside0.mk (below_step HB.out hb); have HXV := Aside0.mk (HBX.out.below hb); have hd0 : wv.cell? ⟨gb, 0, none⟩ = some (.slice A0 H.length c0) := (blk_cell HXV.out 0).trans rfl; have hd1 : wv.cell? ⟨gb, 1, none⟩ = some (.slice A1 S.length c1) := (blk_cell HXV.out 1).trans rfl; clear hb))); go_ret3; have hr := HR.out; unfold bestV at hr; rw [HV.out] at hr; cases hr; exact ⟨_, rfl, Kd.R_nil _ _ _ _ _, HBV.out⟩
 | true =>
  obtain ⟨fb, hfb⟩ : ∃ fb, (decide (0 ≤ a2) && decide (a2 ≤ 3)) = fb := ⟨_, rfl⟩; (have HF := Aside0.mk (show cool_failing.f a2 = some fb by rw [failing_f, hfb])); have HFB := Aside0.mk hfb; clear hfb
  cases fb with
  | false =>
   have HV := Aside0.mk hv; clear hv; go_enter Try.func15, Try.ntmps15; (go_wp2_with (first | ((with_reducible refine gate_dst (N := 2) rfl ?_); refine box_event ?hg (N := 2) ?hd (cs := #[.slice A0 H.length c0, .slice A1 S.length c1]) (t := 25) ?hr ?_; (case hd => rfl); (case hg => rfl); (case hr => first | (go_simp; done) | (go_simp; rfl)); intro gb hg w8 hbox hb; have HBX := Aside0.mk (show TBox w8 gb A0 H.length c0 A1 S.length c1 from hbox); have HB := Aside0.mk hb; have hc_0 : w8.cell? ⟨gb, 0, none⟩ = some (.slice A0 H.length c0) := (blk_cell hbox 0).trans rfl; have hc_1 : w8.cell? ⟨gb, 1, none⟩ = some (.slice A1 S.length c1) := (blk_cell hbox 1).trans rfl; clear hbox hb hg) | (go_at_call 47; (with_reducible refine (cool_valid.calls A0 c0 H A1 c1 S true _ ?s1 HC0.out ?s2 HC1.out ?s3).mono ?_); (case s1 => exact Kd.C_below HS0.out HB.out); (case s2 => exact Kd.C_below HS1.out HB.out); (case s3 => exact congrArg some HV.out); rintro e wv ⟨rfl, hb⟩; have HBV := Aside0.mk (below_step HB.out hb); have HXV := Aside0.mk (HBX.out.below hb); have hd0 : wv.cell? ⟨gb, 0, none⟩ = some (.slice A0 H.length c0) := (blk_cell HXV.out 0).trans rfl; have hd1 : wv.cell? ⟨gb, 1, none⟩ = some (.slice A1 S.length c1) := (blk_cell HXV.out 1).trans rfl; clear hb) | (go_at_call 48; (with_reducible refine (cool_failing.calls a2 false _ HF.out).mono ?_); rintro e wf ⟨rfl, ⟨nd, rfl⟩⟩; obtain ⟨wf, hwf⟩ : ∃ wf, wv.drewN nd = wf := ⟨_, rfl⟩; rw [hwf]; have hf0 : wf.cell? ⟨gb, 0, none⟩ = some (.slice A0 H.length c0) := (by rw [← hwf]; exact hd0); have hf1 : wf.cell? ⟨gb, 1, none⟩ = some (.slice A1 S.length c1) := (by rw [← hwf]; exact hd1); have HBF := Aside0.mk (show Below w.heap.size w wf by rw [← hwf]; exact pw_below_drewN HBV.out _); have HXF := Aside0.mk (show TBox wf gb A0 H.length c0 A1 S.length c1 by rw [← hwf]; exact HXV.out.drewN _); have hgb : gb < wf.heap.size := blk_lt HXF.out; clear hwf))); go_ret3; have hr := HR.out; unfold bestV at hr; rw [HV.out, HFB.out] at hr; cases hr; exact ⟨_, rfl, Kd.R_nil _ _ _ _ _, HBF.out⟩
  | true =>
   obtain ⟨v1, v2, v3, v4, v5, v6⟩ := valid_facts hv; have HV := Aside0.mk hv
   obtain ⟨n, rfl, hn3⟩ : ∃ n : Nat, a2 = n ∧ n ≤ 3 := ⟨a2.toNat, by
    have := HFB.out; simp at this; omega, by have := HFB.out; simp at this; omega⟩
   have HR2 := Aside0.mk (show (match bestN H S n (2 ^ S.length) with | none => (([] : List Int), (0 : Int), (5 : Int)) | some (c, l) => (l, c, 0)) = (r1, r2, r3) by
    have hr := HR.out; unfold bestV at hr; rw [HV.out, HFB.out] at hr
    simpa using hr)
   have HGD := Aside0.mk v5; have HCB := Aside0.mk v6; (have HH6 := Aside0.mk (show H.length ≤ 100 by omega)); have HS10 := Aside0.mk v4; (have HN3 := Aside0.mk (show n ≤ 1000 by omega)); clear hv v1 v2 v3 v4 v5 v6 hn3 HR HFB; go_enter Try.func15, Try.ntmps15; (go_wp2_with (first | ((with_reducible refine gate_dst (N := 2) rfl ?_); refine box_event ?hg (N := 2) ?hd (cs := #[.slice A0 H.length c0, .slice A1 S.length c1]) (t := 25) ?hr ?_; (case hd => rfl); (case hg => rfl); (case hr => first | (go_simp; done) | (go_simp; rfl)); intro gb hg w8 hbox hb; have HBX := Aside0.mk (show TBox w8 gb A0 H.length c0 A1 S.length c1 from hbox); have HB := Aside0.mk hb; have hc_0 : w8.cell? ⟨gb, 0, none⟩ = some (.slice A0 H.length c0) := (blk_cell hbox 0).trans rfl; have hc_1 : w8.cell? ⟨gb, 1, none⟩ = some (.slice A1 S.length c1) := (blk_cell hbox 1).trans rfl; clear hbox hb hg) | (go_at_call 47; (with_reducible refine (cool_valid.calls A0 c0 H A1 c1 S true _ ?s1 HC0.out ?s2 HC1.out ?s3).mono ?_); (case s1 => exact Kd.C_below HS0.out HB.out); (case s2 => exact Kd.C_below HS1.out HB.out); (case s3 => exact congrArg some HV.out); rintro e wv ⟨rfl, hb⟩; have HBV := Aside0.mk (below_step HB.out hb); have HXV := Aside0.mk (HBX.out.below hb); have hd0 : wv.cell? ⟨gb, 0, none⟩ = some (.slice A0 H.length c0) := (blk_cell HXV.out 0).trans rfl; have hd1 : wv.cell? ⟨gb, 1, none⟩ = some (.slice A1 S.length c1) := (blk_cell HXV.out 1).trans rfl; clear hb) | (go_at_call 48; (with_reducible refine (cool_failing.calls n true _ HF.out).mono ?_); rintro e wf ⟨rfl, ⟨nd, rfl⟩⟩; obtain ⟨wf, hwf⟩ : ∃ wf, wv.drewN nd = wf := ⟨_, rfl⟩; rw [hwf]; have hf0 : wf.cell? ⟨gb, 0, none⟩ = some (.slice A0 H.length c0) := (by rw [← hwf]; exact hd0); have hf1 : wf.cell? ⟨gb, 1, none⟩ = some (.slice A1 S.length c1) := (by rw [← hwf]; exact hd1); have HBF := Aside0.mk (show Below w.heap.size w wf by rw [← hwf]; exact pw_below_drewN HBV.out _); have HXF := Aside0.mk (show TBox wf gb A0 H.length c0 A1 S.length c1 by rw [← hwf]; exact HXV.out.drewN _); have hgb : gb < wf.heap.size := blk_lt HXF.out; clear hwf))); have hsh : wrap64 (2 ^ min S.length 64) = ((2 ^ S.length : Nat) : Int) := shl_pow2 S.length HS10.out; rw [hsh]; (have hN : 2 ^ S.length ≤ 1024 := Nat.pow_le_pow_right (n := 2) (by decide) HS10.out); obtain ⟨N, hNe⟩ : ∃ N, 2 ^ S.length = N := ⟨_, rfl⟩; have HNE := Aside0.mk hNe; have hr2 := HR2.out; rw [hNe] at hN hr2 ⊢; have HR3 := Aside0.mk hr2; have H7 : (wf.alloc (Obj.cells #[Value.int IntKind.i64 0, Value.slice none 0 0] 83)).heap[wf.heap.size]? = some (.cells #[.int .i64 0, .slice none 0 0] 83 (0, 0)) := blk_new wf _; have HB0 := Aside0.mk (HBF.out.alloc HBF.out.size (Obj.cells #[Value.int IntKind.i64 0, Value.slice none 0 0] 83)); (have HX0 := Aside0.mk (show TBox (wf.alloc (Obj.cells #[Value.int IntKind.i64 0, Value.slice none 0 0] 83)) gb A0 H.length c0 A1 S.length c1 from blk_alloc HXF.out _)); have h7lt := below_size HBF.out; obtain ⟨b7, hb7⟩ : ∃ b7, wf.heap.size = b7 := ⟨_, rfl⟩; rw [hb7] at H7 h7lt ⊢; have H70 := Aside0.mk H7; have H7L := Aside0.mk h7lt; obtain ⟨W0, hW0⟩ : ∃ W0, wf.alloc (Obj.cells #[Value.int IntKind.i64 0, Value.slice none 0 0] 83) = W0 := ⟨_, rfl⟩; rw [hW0] at H70 HB0 HX0 ⊢; clear H7 hW0 hb7 HXF HBF hf0 hf1 hgb HXV HBV hd0 hd1 HBX HB hc_0 hc_1 hsh hNe hr2 HR2 h7lt; (go_loopg [27, 8] N (fun kq v27 v8 wr => ∃ (s : Nat) (bc : Int) (bl : List Int) (fd : Bool) (v7 : Value), v27 = .int .i64 s ∧ v8 = .bool fd ∧ kq + s = N ∧ Aside0 (bestN H S n s = if fd = true then some (bc, bl) else none) ∧ Aside0 (wr.heap[b7]? = some (.cells #[.int .i64 bc, v7] 83 (0, 0))) ∧ Aside0 (Kd.R (Kd.int .i64) 3 wr w.heap.size (fun _ => True) v7 bl) ∧ Aside0 (TBox wr gb A0 H.length c0 A1 S.length c1) ∧ Aside0 (Below w.heap.size w wr))); (case atStart => exact ⟨0, 0, [], false, _, rfl, rfl, rfl, Aside0.mk rfl, H70, Aside0.mk (Kd.R_nil _ _ _ _ _), HX0, HB0⟩)
   case round =>
    obtain ⟨s, bc, bl, fd, v7, rfl, rfl, hki, HBN, HB7, HR7, HXR, HBR⟩ := hrel; by_cases hsN : s < N
    · (have hi' : decide ((s : Int) < (N : Int)) = true := by simp; omega); have HSN := Aside0.mk hsN; (have HSP := Aside0.mk (show s < 2 ^ S.length by rw [HNE.out]; exact hsN)); (have HS62 := Aside0.mk (show s < 2 ^ 62 by omega)); (go_wp2_with (first | (go_at_call 49; (with_reducible refine (cool_set_list.calls 11 (s : Int) (memI s) _ (list_f s HS62.out 11 (by decide))).mono ?_); rintro e w10 ⟨v, rfl, hr, hb⟩; have HR10 := Aside0.mk hr; obtain ⟨AL, cL, rfl, hcl, hrl⟩ := Kd.R_reads hr; have HCL := Aside0.mk hcl; have HRL := Aside0.mk hrl; have HB10 := Aside0.mk hb; clear hr hb hcl hrl))); obtain ⟨W1, hW1⟩ : ∃ W1, w10.alloc (Obj.cells #[Value.int IntKind.i64 0, Value.slice AL (memI s).length cL] 83) = W1 := ⟨_, rfl⟩; obtain ⟨bt, hbt⟩ : ∃ bt, w10.heap.size = bt := ⟨_, rfl⟩; (have hbb : Below wr.heap.size wr W1 := by rw [← hW1]; exact HB10.out.alloc HB10.out.size _); have HBB := Aside0.mk hbb; (have HBT0 := Aside0.mk (show W1.heap[bt]? = some (.cells #[.int .i64 0, .slice AL (memI s).length cL] 83 (0, 0)) by rw [← hW1, ← hbt]; exact blk_new w10 _)); (have HRL1 := Aside0.mk (show Kd.C (Kd.int .i64) W1 AL (memI s).length (memI s) by rw [← hW1]; exact Kd.C_below HRL.out (Below.refl _ _ |>.alloc (Nat.le_refl _) _))); (have HRO1 := Aside0.mk (show Kd.R (Kd.int .i64) 3 W1 w.heap.size (fun _ => True) (.slice AL (memI s).length cL) (memI s) by rw [← hW1]; exact RI_below (Kd.R_lower HR10.out (below_size HBR.out)) (Below.refl _ _ |>.alloc (Nat.le_refl _) _))); (have HBTL := Aside0.mk (show wr.heap.size ≤ bt by rw [← hbt]; exact HB10.out.size)); rw [hW1, hbt]; clear hW1 hbt hbb HR10 HRL HB10; obtain ⟨L, hL⟩ : ∃ L, memI s = L := ⟨_, rfl⟩; (have hlen : L.length ≤ 10 := by rw [← hL]; exact memI_len s)
      have HLX := Aside0.mk (show ∀ x ∈ L, ∃ j : Nat, x = j ∧ j < S.length by
       rw [← hL]; intro x hx; unfold memI at hx; obtain ⟨j, hj, rfl⟩ := List.mem_map.1 hx
       exact ⟨j, rfl, (memN_lt HSP.out j hj).1⟩)
      have HLE := Aside0.mk hL; rw [hL] at HBT0 HRL1 HRO1 HCL ⊢; clear hL; obtain ⟨Wo, hWo⟩ : ∃ Wo, Wo = wr := ⟨_, rfl⟩; subst hWo; (go_loopg [36] L.length (fun kq v36 w2 => ∃ i : Nat, v36 = .int .i64 i ∧ kq + i = L.length ∧ Aside0 (w2.heap[bt]? = some (.cells #[.int .i64 (costN S (L.take i)), .slice AL L.length cL] 83 (0, 0))) ∧ Aside0 (W1.grownBy w2 (some bt)))); (case atStart => exact ⟨0, rfl, by omega, HBT0, Aside0.mk (World.grownBy.refl W1 _)⟩)
      case round =>
       obtain ⟨i, rfl, hki2, HBT, HGW⟩ := hrel; by_cases hiL : i < L.length
       · (have hi2' : decide ((i : Int) < (L.length : Int)) = true := by simp; omega); have hgn : bt < wr.heap.size := blk_lt HBT.out; obtain ⟨j, hj, hjS⟩ := HLX.out (rd L (i : Int)) (rd_mem hiL); (have HRO2 := Aside0.mk (RI_grown HRO1.out HGW.out HBT0.out (by decide)))
         have hrl : Kd.C (Kd.int .i64) wr AL L.length L := by
          obtain ⟨A_, c_, he, hc_, hr_⟩ := Kd.R_reads HRO2.out; cases he; exact hr_
         (obtain ⟨adl, hAL, hxl⟩ := Kd.at_int hrl (i : Int) (by omega) (by omega)); simp only [Int.toNat_natCast] at hxl; rw [hj] at hxl; have HBW2 := grown_below2 (below_step HBR.out HBB.out) HGW.out (Nat.le_trans (below_size HBR.out) HBTL.out); (obtain ⟨ads, A2_, c2_, hA1, hx0, _, _, _, _⟩ := at_T64 (Kd.C_below HS1.out HBW2) (j : Int) (by omega) (by omega)); simp only [Int.toNat_natCast] at hx0; obtain ⟨y, hy⟩ : ∃ y, (rd_T64 S (j : Int)).f0 = y := ⟨_, rfl⟩; rw [hy] at hx0; obtain ⟨a, ha⟩ : ∃ a, costN S (L.take i) = a := ⟨_, rfl⟩; have hbt := HBT.out; rw [ha] at hbt; have ht0 : wr.cell? ⟨bt, 0, none⟩ = some (.int .i64 a) := (blk_cell hbt 0).trans rfl; have htf : wr.frozen? ⟨bt, 0, none⟩ = false := blk_frozen hbt 0; (have hxr : TBox wr gb A0 H.length c0 A1 S.length c1 := blk_grown (HXR.out.below HBB.out) HGW.out (fun e => (blk_ne (HXR.out.below HBB.out) HBT0.out (by decide)) (Option.some.inj e))); have hg1 : wr.cell? ⟨gb, 1, none⟩ = some (.slice A1 S.length c1) := (blk_cell hxr 1).trans rfl; (have hbd : 0 ≤ a ∧ a ≤ 10000000 := by rw [← ha]; exact cost_bd HV.out (L.take i) (fun x hx => HLX.out x (List.mem_of_mem_take hx)) (by simp; omega)); (have hbd2 : 0 ≤ y ∧ y ≤ 1000000 := by rw [← hy]; exact site_cost HV.out hjS); (have hyw : wrap64 (a + y) = a + y := wrap64_of _ (by omega) (by omega)); (have HY : Aside0 (costN S (L.take (i + 1)) = a + y) := ⟨by rw [← ha, ← hy, cost_take S hiL, hj]⟩); have HBX9 := Aside0.mk hbt; (have hd0 : decide (0 ≤ (i : Int)) = true := by simp); (have hjd : decide ((j : Int) < (S.length : Int)) = true := by simp; omega); (have hjd0 : decide (0 ≤ (j : Int)) = true := by simp); subst hAL hA1; clear hrl hj hbt hxr hy ha HRO2; go_wp2; (refine start_ (n := 11) (S := fun w' => w'.cell? ⟨bt, 0, none⟩ = some (.int .i64 a) ∧ w'.cell? ⟨gb, 1, none⟩ = some (.slice (some ads) S.length c1) ∧ w'.cell? (ads.add (j * 3)) = some (.int .i64 y)) (ds := [10]) #[false, false, false, false, false, false, false, false, false, false, false] (by kernel_rfl) rfl rfl ⟨ht0, hg1, hx0⟩ (fun hHeld => ?_); refine with_tabW bs12.tab bs12.bits (fun HT_ HW_ => ?_)); (refine pure_ (i := 0) (N := some 40) (v := ?_) (a' := ?_) #[true, false, false, false, false, false, false, false, false, false, false] rfl rfl (any_of HT_.out (by kernel_rfl)) (fun _ _ _ h => h) (Or.inl ⟨by rfl, ?_⟩) ?_ ?_); rotate_left
         · intro w'; go_simp; (with_reducible rfl)
         rotate_left
         · simp only [Act.put, List.setIfInBounds_toArray, List.set_cons_zero, List.set_cons_succ, i64_w, i32_w]; rfl
         (refine take_ (i := 1) (N := some 41) (v := ?_) (a' := ?_) #[true, true, false, false, false, false, false, false, false, false, false] rfl rfl (take_ofW HT_.out HW_.out (by kernel_rfl)) (fun _ _ _ h => h) (Or.inl ⟨by rfl, ?_⟩) hHeld ?_ ?_); rotate_left
         · rintro w' ⟨s0, s1, s2⟩; go_simp; (with_reducible rfl)
         rotate_left
         · simp only [Act.put, List.setIfInBounds_toArray, List.set_cons_zero, List.set_cons_succ, i64_w, i32_w]; rfl
         (refine pure_ (i := 2) (N := some 42) (v := ?_) (a' := ?_) #[true, true, true, false, false, false, false, false, false, false, false] rfl rfl (any_of HT_.out (by kernel_rfl)) (fun _ _ _ h => h) (Or.inl ⟨by rfl, ?_⟩) ?_ ?_); rotate_left
         · intro w'; go_simp; (with_reducible rfl)
         rotate_left
         · simp only [Act.put, List.setIfInBounds_toArray, List.set_cons_zero, List.set_cons_succ, i64_w, i32_w]; rfl
         (refine take_ (i := 3) (N := some 43) (v := ?_) (a' := ?_) #[true, true, true, true, false, false, false, false, false, false, false] rfl rfl (take_ofW HT_.out HW_.out (by kernel_rfl)) (fun _ _ _ h => h) (Or.inl ⟨by rfl, ?_⟩) hHeld ?_ ?_); rotate_left
         · rintro w' ⟨s0, s1, s2⟩; go_simp; (with_reducible rfl)
         rotate_left
         · simp only [Act.put, List.setIfInBounds_toArray, List.set_cons_zero, List.set_cons_succ, i64_w, i32_w]; rfl
         (refine pure_ (i := 4) (N := some 44) (v := ?_) (a' := ?_) #[true, true, true, true, true, false, false, false, false, false, false] rfl rfl (any_of HT_.out (by kernel_rfl)) (fun _ _ _ h => h) (Or.inl ⟨by rfl, ?_⟩) ?_ ?_); rotate_left
         · intro w'; go_simp; (with_reducible rfl)
         rotate_left
         · simp only [Act.put, List.setIfInBounds_toArray, List.set_cons_zero, List.set_cons_succ, i64_w, i32_w]; rfl
         (refine pure_ (i := 5) (N := some 45) (v := ?_) (a' := ?_) #[true, true, true, true, true, true, false, false, false, false, false] rfl rfl (any_of HT_.out (by kernel_rfl)) (fun _ _ _ h => h) (Or.inl ⟨by rfl, ?_⟩) ?_ ?_); rotate_left
         · intro w'; go_simp; (with_reducible rfl)
         rotate_left
         · simp only [Act.put, List.setIfInBounds_toArray, List.set_cons_zero, List.set_cons_succ, i64_w, i32_w]; rfl
         (refine pure_ (i := 6) (N := some 46) (v := ?_) (a' := ?_) #[true, true, true, true, true, true, true, false, false, false, false] rfl rfl (any_of HT_.out (by kernel_rfl)) (fun _ _ _ h => h) (Or.inl ⟨by rfl, ?_⟩) ?_ ?_); rotate_left
         · intro w'; go_simp; (with_reducible rfl)
         rotate_left
         · simp only [Act.put, List.setIfInBounds_toArray, List.set_cons_zero, List.set_cons_succ, i64_w, i32_w]; rfl
         (refine take_ (i := 7) (N := some 47) (v := ?_) (a' := ?_) #[true, true, true, true, true, true, true, true, false, false, false] rfl rfl (take_ofW HT_.out HW_.out (by kernel_rfl)) (fun _ _ _ h => h) (Or.inl ⟨by rfl, ?_⟩) hHeld ?_ ?_); rotate_left
         · rintro w' ⟨s0, s1, s2⟩; go_simp; (with_reducible rfl)
         rotate_left
         · simp only [Act.put, List.setIfInBounds_toArray, List.set_cons_zero, List.set_cons_succ, i64_w, i32_w]; rfl
         (refine pure_ (i := 8) (N := some 48) (v := ?_) (a' := ?_) #[true, true, true, true, true, true, true, true, true, false, false] rfl rfl (any_of HT_.out (by kernel_rfl)) (fun _ _ _ h => h) (Or.inl ⟨by rfl, ?_⟩) ?_ ?_); rotate_left
         · intro w'; go_simp; (with_reducible rfl)
         rotate_left
         · simp only [Act.put, List.setIfInBounds_toArray, List.set_cons_zero, List.set_cons_succ, i64_w, i32_w]; rfl
         (refine pure_ (i := 9) (N := some 49) (v := ?_) (a' := ?_) #[true, true, true, true, true, true, true, true, true, true, false] rfl rfl (any_of HT_.out (by kernel_rfl)) (fun _ _ _ h => h) (Or.inl ⟨by rfl, ?_⟩) ?_ ?_); rotate_left
         · intro w'; go_simp; (with_reducible rfl)
         rotate_left
         · simp only [Act.put, List.setIfInBounds_toArray, List.set_cons_zero, List.set_cons_succ, i64_w, i32_w]; rfl
         (refine last_ (i := 10) (N := none) #[true, true, true, true, true, true, true, true, true, true, true] rfl rfl (one_of HT_.out (by kernel_rfl)) (by decide) (fun K hK => ?_)); (refine skip_ (w1 := wr.drew.setCell ⟨bt, 0, none⟩ (.int .i64 (a + y))) (by rfl) rfl (by go_simp) ?_); refine hK.out _ _ ?_; clear hK K; (refine done_ (done_of HT_.out (by kernel_rfl)) ?_); go_wp2; go_roundg (L.length - (i + 1)); (case measure => omega)
         case rel =>
          refine ⟨i + 1, (congrArg (Value.int .i64) (by first | omega | (rw [wrap64_of _ (by omega) (by omega)]; omega))), by omega, ?_, ?_⟩
          · rw [HY.out]; exact ⟨blk_set (blk_drew HBX9.out) 0 _⟩
          · exact ⟨HGW.out.trans (grown_set1 wr bt _)⟩
       · (have hi2' : decide ((i : Int) < (L.length : Int)) = false := by simp; omega); (obtain rfl : i = L.length := by omega); have htk : L.take L.length = L := List.take_length; (have HBTW := Aside0.mk (show wr.heap[bt]? = some (.cells #[.int .i64 (costN S L), .slice AL L.length cL] 83 (0, 0)) by have h := HBT.out; rwa [htk] at h)); (have hb7ne : b7 ≠ bt := by have h1 := blk_lt HB7.out; have h2 := HBTL.out; omega); (have HB7W := Aside0.mk (blk_grown (blk_below HB7.out HBB.out) HGW.out (fun e => hb7ne (Option.some.inj e)))); (have HXW := Aside0.mk (show TBox wr gb A0 H.length c0 A1 S.length c1 from blk_grown (HXR.out.below HBB.out) HGW.out (fun e => (blk_ne (HXR.out.below HBB.out) HBT0.out (by decide)) (Option.some.inj e)))); (have HROW := Aside0.mk (RI_grown HRO1.out HGW.out HBT0.out (by decide))); (have HR7W := Aside0.mk (RI_grown (RI_below HR7.out HBB.out) HGW.out HBT0.out (by decide))); have HBP := Aside0.mk (grown_below2 (below_step HBR.out HBB.out) HGW.out (Nat.le_trans (below_size HBR.out) HBTL.out))
         have HRLW : Aside0 (Kd.C (Kd.int .i64) wr AL L.length L) := by
          obtain ⟨A_, c_, he, hc_, hr_⟩ := Kd.R_reads HROW.out; cases he; exact ⟨hr_⟩
         obtain ⟨A7, c7, rfl, hc7, hr7⟩ := Kd.R_reads HR7W.out; have HR7C := Aside0.mk hr7; have HC7 := Aside0.mk hc7; have HL10 := Aside0.mk hlen; (have HNE7 : gb ≠ b7 := blk_ne HXW.out HB7W.out (by decide)); (have HSTEP : Aside0 (bestN H S n (s + 1) = bestStep H S n (if fd = true then some (bc, bl) else none) s) := ⟨by rw [← HBN.out]; rfl⟩); have ht0 : wr.cell? ⟨bt, 0, none⟩ = some (.int .i64 (costN S L)) := (blk_cell HBTW.out 0).trans rfl; have ht1 : wr.cell? ⟨bt, 1, none⟩ = some (.slice AL L.length cL) := (blk_cell HBTW.out 1).trans rfl; have hs0 : wr.cell? ⟨b7, 0, none⟩ = some (.int .i64 bc) := (blk_cell HB7W.out 0).trans rfl; have hs1 : wr.cell? ⟨b7, 1, none⟩ = some (.slice A7 bl.length c7) := (blk_cell HB7W.out 1).trans rfl; have hg0 : wr.cell? ⟨gb, 0, none⟩ = some (.slice A0 H.length c0) := (blk_cell HXW.out 0).trans rfl; have hg1 : wr.cell? ⟨gb, 1, none⟩ = some (.slice A1 S.length c1) := (blk_cell HXW.out 1).trans rfl; clear hr7 hc7 htk hb7ne HB7 HXR HR7 HBR HRO1 HBT0 HBB HGW HBT HRL1 HBTL HBN; obtain ⟨bi, hbi⟩ : ∃ bi, brkI H S n s = bi := ⟨_, rfl⟩; obtain ⟨kb, hkb⟩ : ∃ kb, (brk H S n s).isSome = kb := ⟨_, rfl⟩
         have BRKC : ∀ (B M : Nat) (W : World), Tn W B M A0 c0 H A1 c1 S s → Calls Try.prog 52 #[.pointer (some ⟨B, 0, none⟩), .int .i64 n] W fun e w' => e = .returned (.tuple #[.int .i64 bi, .bool kb]) ∧ Tn w' B M A0 c0 H A1 c1 S s ∧ W.grownBy w' (some M) := fun B M W hT => by
          rw [← hbi, ← hkb]; exact broken.calls B M A0 c0 H A1 c1 S n s W hT HGD.out HCB.out HH6.out HSP.out HN3.out
         have HKB := Aside0.mk hkb; clear hbi hkb hlen
         cases fd with
         | false =>
          have HBQ := HBP
          cases kb with
          | true =>
           (go_wp2_with (first | (go_at_call 51; (with_reducible refine (buy.calls A0 c0 H A1 c1 S s _ ?s1 ?s2).mono ?_); (case s1 => exact Kd.C_below HS0.out HBQ.out); (case s2 => exact Kd.C_below HS1.out HBQ.out); rintro e wu ⟨B, M, rfl, hB, hM, hT, hb⟩; have HBU := Aside0.mk hb; have HTU := Aside0.mk hT; have HLM := Aside0.mk hM; clear hb hT hB hM) | (go_at_call 52; (with_reducible refine (BRKC B M _ HTU.out).mono ?_); rintro e wk ⟨rfl, ht, hg⟩; have HBK := Aside0.mk (grown_below2 HBU.out hg HLM.out); clear ht hg; have HALL := Aside0.mk (show Below wr.heap.size wr wk from HBK.out); have hk0 : wk.cell? ⟨bt, 0, none⟩ = some (.int .i64 (costN S L)) := (blk_cell (blk_below HBTW.out HALL.out) 0).trans rfl; have hk1 : wk.cell? ⟨bt, 1, none⟩ = some (.slice AL L.length cL) := (blk_cell (blk_below HBTW.out HALL.out) 1).trans rfl; have hk2 : wk.cell? ⟨b7, 0, none⟩ = some (.int .i64 bc) := (blk_cell (blk_below HB7W.out HALL.out) 0).trans rfl; have hk3 : wk.cell? ⟨b7, 1, none⟩ = some (.slice A7 bl.length c7) := (blk_cell (blk_below HB7W.out HALL.out) 1).trans rfl; have hf0 : wk.frozen? ⟨b7, 0, none⟩ = false := blk_frozen (blk_below HB7W.out HALL.out) 0; have hf1 : wk.frozen? ⟨b7, 1, none⟩ = false := blk_frozen (blk_below HB7W.out HALL.out) 1))); go_roundg (N - (s + 1)); (case measure => omega)
           case rel =>
            replace HALL := HALL.out; (refine ⟨s + 1, bc, bl, false, .slice A7 bl.length c7, (congrArg (Value.int .i64) (by first | omega | (rw [wrap64_of _ (by omega) (by omega)]; omega))), rfl, by omega, Aside0.mk ?_, Aside0.mk (blk_below HB7W.out HALL), Aside0.mk (RI_below HR7W.out HALL), Aside0.mk (HXW.out.below HALL), Aside0.mk (below_step HBP.out HALL)⟩); rw [HSTEP.out]; simp only [bestStep, HLE.out, HKB.out, if_true, Bool.false_eq_true, if_false, Bool.not_true, Bool.not_false]
          | false =>
           (go_wp2_with (first | (go_at_call 51; (with_reducible refine (buy.calls A0 c0 H A1 c1 S s _ ?s1 ?s2).mono ?_); (case s1 => exact Kd.C_below HS0.out HBQ.out); (case s2 => exact Kd.C_below HS1.out HBQ.out); rintro e wu ⟨B, M, rfl, hB, hM, hT, hb⟩; have HBU := Aside0.mk hb; have HTU := Aside0.mk hT; have HLM := Aside0.mk hM; clear hb hT hB hM) | (go_at_call 52; (with_reducible refine (BRKC B M _ HTU.out).mono ?_); rintro e wk ⟨rfl, ht, hg⟩; have HBK := Aside0.mk (grown_below2 HBU.out hg HLM.out); clear ht hg; have HALL := Aside0.mk (show Below wr.heap.size wr wk from HBK.out); have hk0 : wk.cell? ⟨bt, 0, none⟩ = some (.int .i64 (costN S L)) := (blk_cell (blk_below HBTW.out HALL.out) 0).trans rfl; have hk1 : wk.cell? ⟨bt, 1, none⟩ = some (.slice AL L.length cL) := (blk_cell (blk_below HBTW.out HALL.out) 1).trans rfl; have hk2 : wk.cell? ⟨b7, 0, none⟩ = some (.int .i64 bc) := (blk_cell (blk_below HB7W.out HALL.out) 0).trans rfl; have hk3 : wk.cell? ⟨b7, 1, none⟩ = some (.slice A7 bl.length c7) := (blk_cell (blk_below HB7W.out HALL.out) 1).trans rfl; have hf0 : wk.frozen? ⟨b7, 0, none⟩ = false := blk_frozen (blk_below HB7W.out HALL.out) 0; have hf1 : wk.frozen? ⟨b7, 1, none⟩ = false := blk_frozen (blk_below HB7W.out HALL.out) 1))); go_roundg (N - (s + 1)); (case measure => omega)
           case rel =>
            replace HALL := HALL.out; have hB7 := blk_below HB7W.out HALL; have hA : Below w.heap.size w ((wk.setCell ⟨b7, 0, none⟩ (.int .i64 (costN S L))).setCell ⟨b7, 1, none⟩ (.slice AL L.length cL)) := ((below_step HBP.out HALL).setCell (p := ⟨b7, 0, none⟩) H7L.out _).setCell (p := ⟨b7, 1, none⟩) H7L.out _; (refine ⟨s + 1, costN S L, L, true, .slice AL L.length cL, (congrArg (Value.int .i64) (by first | omega | (rw [wrap64_of _ (by omega) (by omega)]; omega))), rfl, by omega, Aside0.mk ?_, Aside0.mk (blk_set (blk_set hB7 0 _) 1 _), Aside0.mk (RI_set (RI_set (RI_below HROW.out HALL) hB7 (by decide) _ _) (blk_set hB7 0 _) (by decide) _ _), Aside0.mk (blk_far (blk_far (HXW.out.below HALL) (p := ⟨b7, 0, none⟩) HNE7 _) (p := ⟨b7, 1, none⟩) HNE7 _), Aside0.mk hA⟩); rw [HSTEP.out]; simp only [bestStep, HLE.out, HKB.out, if_true, Bool.false_eq_true, if_false, Bool.not_true, Bool.not_false]
         | true =>
          obtain ⟨bb, hbb⟩ : ∃ bb, beforeB (costN S L) L bc bl = bb := ⟨_, rfl⟩; have HBE := Aside0.mk hbb; clear hbb
          cases bb with
          | false =>
           (go_wp2_with (first | (go_at_call 50; (with_reducible refine (before.calls (costN S L) AL cL L bc A7 c7 bl _ HRLW.out HCL.out HR7C.out HC7.out HL10.out).mono ?_); rw [HBE.out]; rintro e wb ⟨rfl, hb⟩; have HBWB := Aside0.mk hb; have HBQ := Aside0.mk (below_step HBP.out hb); have hg0 : wb.cell? ⟨gb, 0, none⟩ = some (.slice A0 H.length c0) := (blk_cell (HXW.out.below hb) 0).trans rfl; have hg1 : wb.cell? ⟨gb, 1, none⟩ = some (.slice A1 S.length c1) := (blk_cell (HXW.out.below hb) 1).trans rfl; clear hb))); go_roundg (N - (s + 1)); (case measure => omega)
           case rel =>
            have HALL := HBWB.out; (refine ⟨s + 1, bc, bl, true, .slice A7 bl.length c7, (congrArg (Value.int .i64) (by first | omega | (rw [wrap64_of _ (by omega) (by omega)]; omega))), rfl, by omega, Aside0.mk ?_, Aside0.mk (blk_below HB7W.out HALL), Aside0.mk (RI_below HR7W.out HALL), Aside0.mk (HXW.out.below HALL), Aside0.mk (below_step HBP.out HALL)⟩); rw [HSTEP.out]; simp only [bestStep, HLE.out, HBE.out, if_true, Bool.not_false]
          | true =>
           cases kb with
           | true =>
            (go_wp2_with (first | (go_at_call 50; (with_reducible refine (before.calls (costN S L) AL cL L bc A7 c7 bl _ HRLW.out HCL.out HR7C.out HC7.out HL10.out).mono ?_); rw [HBE.out]; rintro e wb ⟨rfl, hb⟩; have HBWB := Aside0.mk hb; have HBQ := Aside0.mk (below_step HBP.out hb); have hg0 : wb.cell? ⟨gb, 0, none⟩ = some (.slice A0 H.length c0) := (blk_cell (HXW.out.below hb) 0).trans rfl; have hg1 : wb.cell? ⟨gb, 1, none⟩ = some (.slice A1 S.length c1) := (blk_cell (HXW.out.below hb) 1).trans rfl; clear hb) | (go_at_call 51; (with_reducible refine (buy.calls A0 c0 H A1 c1 S s _ ?s1 ?s2).mono ?_); (case s1 => exact Kd.C_below HS0.out HBQ.out); (case s2 => exact Kd.C_below HS1.out HBQ.out); rintro e wu ⟨B, M, rfl, hB, hM, hT, hb⟩; have HBU := Aside0.mk hb; have HTU := Aside0.mk hT; have HLM := Aside0.mk hM; clear hb hT hB hM) | (go_at_call 52; (with_reducible refine (BRKC B M _ HTU.out).mono ?_); rintro e wk ⟨rfl, ht, hg⟩; have HBK := Aside0.mk (grown_below2 HBU.out hg HLM.out); clear ht hg; have HALL := Aside0.mk (show Below wr.heap.size wr wk from below_step HBWB.out HBK.out); have hk0 : wk.cell? ⟨bt, 0, none⟩ = some (.int .i64 (costN S L)) := (blk_cell (blk_below HBTW.out HALL.out) 0).trans rfl; have hk1 : wk.cell? ⟨bt, 1, none⟩ = some (.slice AL L.length cL) := (blk_cell (blk_below HBTW.out HALL.out) 1).trans rfl; have hk2 : wk.cell? ⟨b7, 0, none⟩ = some (.int .i64 bc) := (blk_cell (blk_below HB7W.out HALL.out) 0).trans rfl; have hk3 : wk.cell? ⟨b7, 1, none⟩ = some (.slice A7 bl.length c7) := (blk_cell (blk_below HB7W.out HALL.out) 1).trans rfl; have hf0 : wk.frozen? ⟨b7, 0, none⟩ = false := blk_frozen (blk_below HB7W.out HALL.out) 0; have hf1 : wk.frozen? ⟨b7, 1, none⟩ = false := blk_frozen (blk_below HB7W.out HALL.out) 1))); go_roundg (N - (s + 1)); (case measure => omega)
            case rel =>
             replace HALL := HALL.out; (refine ⟨s + 1, bc, bl, true, .slice A7 bl.length c7, (congrArg (Value.int .i64) (by first | omega | (rw [wrap64_of _ (by omega) (by omega)]; omega))), rfl, by omega, Aside0.mk ?_, Aside0.mk (blk_below HB7W.out HALL), Aside0.mk (RI_below HR7W.out HALL), Aside0.mk (HXW.out.below HALL), Aside0.mk (below_step HBP.out HALL)⟩); rw [HSTEP.out]; simp only [bestStep, HLE.out, HKB.out, HBE.out, if_true, Bool.false_eq_true, if_false, Bool.not_true, Bool.not_false]
           | false =>
            (go_wp2_with (first | (go_at_call 50; (with_reducible refine (before.calls (costN S L) AL cL L bc A7 c7 bl _ HRLW.out HCL.out HR7C.out HC7.out HL10.out).mono ?_); rw [HBE.out]; rintro e wb ⟨rfl, hb⟩; have HBWB := Aside0.mk hb; have HBQ := Aside0.mk (below_step HBP.out hb); have hg0 : wb.cell? ⟨gb, 0, none⟩ = some (.slice A0 H.length c0) := (blk_cell (HXW.out.below hb) 0).trans rfl; have hg1 : wb.cell? ⟨gb, 1, none⟩ = some (.slice A1 S.length c1) := (blk_cell (HXW.out.below hb) 1).trans rfl; clear hb) | (go_at_call 51; (with_reducible refine (buy.calls A0 c0 H A1 c1 S s _ ?s1 ?s2).mono ?_); (case s1 => exact Kd.C_below HS0.out HBQ.out); (case s2 => exact Kd.C_below HS1.out HBQ.out); rintro e wu ⟨B, M, rfl, hB, hM, hT, hb⟩; have HBU := Aside0.mk hb; have HTU := Aside0.mk hT; have HLM := Aside0.mk hM; clear hb hT hB hM) | (go_at_call 52; (with_reducible refine (BRKC B M _ HTU.out).mono ?_); rintro e wk ⟨rfl, ht, hg⟩; have HBK := Aside0.mk (grown_below2 HBU.out hg HLM.out); clear ht hg; have HALL := Aside0.mk (show Below wr.heap.size wr wk from below_step HBWB.out HBK.out); have hk0 : wk.cell? ⟨bt, 0, none⟩ = some (.int .i64 (costN S L)) := (blk_cell (blk_below HBTW.out HALL.out) 0).trans rfl; have hk1 : wk.cell? ⟨bt, 1, none⟩ = some (.slice AL L.length cL) := (blk_cell (blk_below HBTW.out HALL.out) 1).trans rfl; have hk2 : wk.cell? ⟨b7, 0, none⟩ = some (.int .i64 bc) := (blk_cell (blk_below HB7W.out HALL.out) 0).trans rfl; have hk3 : wk.cell? ⟨b7, 1, none⟩ = some (.slice A7 bl.length c7) := (blk_cell (blk_below HB7W.out HALL.out) 1).trans rfl; have hf0 : wk.frozen? ⟨b7, 0, none⟩ = false := blk_frozen (blk_below HB7W.out HALL.out) 0; have hf1 : wk.frozen? ⟨b7, 1, none⟩ = false := blk_frozen (blk_below HB7W.out HALL.out) 1))); go_roundg (N - (s + 1)); (case measure => omega)
            case rel =>
             replace HALL := HALL.out; have hB7 := blk_below HB7W.out HALL; have hA : Below w.heap.size w ((wk.setCell ⟨b7, 0, none⟩ (.int .i64 (costN S L))).setCell ⟨b7, 1, none⟩ (.slice AL L.length cL)) := ((below_step HBP.out HALL).setCell (p := ⟨b7, 0, none⟩) H7L.out _).setCell (p := ⟨b7, 1, none⟩) H7L.out _; (refine ⟨s + 1, costN S L, L, true, .slice AL L.length cL, (congrArg (Value.int .i64) (by first | omega | (rw [wrap64_of _ (by omega) (by omega)]; omega))), rfl, by omega, Aside0.mk ?_, Aside0.mk (blk_set (blk_set hB7 0 _) 1 _), Aside0.mk (RI_set (RI_set (RI_below HROW.out HALL) hB7 (by decide) _ _) (blk_set hB7 0 _) (by decide) _ _), Aside0.mk (blk_far (blk_far (HXW.out.below HALL) (p := ⟨b7, 0, none⟩) HNE7 _) (p := ⟨b7, 1, none⟩) HNE7 _), Aside0.mk hA⟩); rw [HSTEP.out]; simp only [bestStep, HLE.out, HKB.out, HBE.out, if_true, Bool.false_eq_true, if_false, Bool.not_true, Bool.not_false]
    · (have hi' : decide ((s : Int) < (N : Int)) = false := by simp; omega); (obtain rfl : s = N := by omega); have HE := Aside0.mk hsN
      cases fd with
      | false =>
       have hr := HR3.out; rw [HBN.out] at hr; have HRR := Aside0.mk hr; clear hr; go_wp2; go_ret3; have hr := HRR.out; cases hr; exact ⟨_, rfl, Kd.R_nil _ _ _ _ _, HBR.out⟩
      | true =>
       have hr := HR3.out; rw [HBN.out] at hr; have HRR := Aside0.mk hr; have hs0 : wr.cell? ⟨b7, 0, none⟩ = some (.int .i64 bc) := (blk_cell HB7.out 0).trans rfl; have hs1 : wr.cell? ⟨b7, 1, none⟩ = some v7 := (blk_cell HB7.out 1).trans rfl; clear hr; go_wp2; go_quiet (fail); go_wp2; go_ret3; have hr := HRR.out; cases hr; exact ⟨_, rfl, Kd.R_drewN HR7.out _, pw_below_drewN HBR.out _⟩
end Go.Proofs.Ytmkdllaagaimlaa.C
end
section
namespace Go.Proofs.Ytmkdllaagaimlaa.C
open Go.RowKit Go.Proofs.YtmkdllaagaimlaaW.PrintWords Go.Proofs.YtmkdllaagaimlaaW.PrintLast Go.Proofs.YtmkdllaagaimlaaW.PrintMore
set_option linter.unusedVariables false
set_option linter.unusedSimpArgs false
def fl1.T : Bool × List (List Nat × List Nat) := (true, [([], []), ([], []), ([], []), ([2], [2]), ([3], [3]), ([4], [4]), ([0, 1, 5], [0, 1, 5]), ([], []), ([6, 7], [6, 7]), ([8, 6, 0, 1, 2, 3, 4, 5, 6, 7, 8], [8])])
def fl1.B : List Nat := [0, 0, 0, 4, 12, 28, 63, 0, 255, 511]
theorem fl1.tab : rtab .any (opsOf Try.f53 1) = fl1.T := by kernel_rfl
theorem fl1.bits : waitsOk fl1.T.2 fl1.B = true := by kernel_rfl
def floorB (H : List S60) (S : List S64) (h f n C : Nat) : Bool := decide ((rd_T60 H (h : Int)).f0.f1 ≤ (((colds S h C).take n).drop f).sum)
attribute [local go_sem] max2_int min2_int max_two min_two
set_option maxHeartbeats 4000000 in
set_option maxRecDepth 100000 in
theorem floor1.calls (B M : Nat) (A0 : Option Addr) (c0 : Nat) (H : List S60) (A1 : Option Addr) (c1 : Nat) (S : List S64) (b6 b7 b3 b2 h f n C : Nat) (w : World) (hT : Tn w B M A0 c0 H A1 c1 S C) (hG : Gd S H.length) (hb : Cb S H.length) (hh : h < H.length) (hC : C < 2 ^ S.length) (hf : f ≤ 1000) (hn : n ≤ (colds S h C).length)
    (v6 : Vr w b6 88 (.pointer (some ⟨B, 0, none⟩))) (v7 : Vr w b7 3 (.int .i64 n)) (v3 : Vr w b3 3 (.int .i64 f)) (v2 : TBox w b2 A0 H.length c0 A1 S.length c1) :
    Calls Try.prog 53 #[.int .i64 h, .pointer (some ⟨b6, 0, none⟩), .pointer (some ⟨b7, 0, none⟩), .pointer (some ⟨b3, 0, none⟩), .pointer (some ⟨b2, 0, none⟩)] w fun e w' => e = .returned (.bool (floorB H S h f n C)) ∧ Below w.heap.size w w' := by
 have hu94 := Try.underlying94; have hu25 := Try.underlying25; have h6 := v6.cell; have h7 := v7.cell; have hB2 : w.cell? ⟨B, 2, none⟩ = some (.int .i64 C) := (blk_cell hT.bo 2).trans rfl; have HT := Aside0.mk hT; have HG := Aside0.mk hG; have HCB := Aside0.mk hb; have HH := Aside0.mk hh; have HCC := Aside0.mk hC; have HN := Aside0.mk hn; have V6 := Aside0.mk v6; have V7 := Aside0.mk v7; have V3 := Aside0.mk v3; have V2 := Aside0.mk v2; clear hT hG hb hh hC hn v6 v7 v3 v2; go_enter Try.func53, Try.ntmps53; go_wp2; (refine start_ (n := 10) (S := fun w' => w'.cell? ⟨b6, 0, none⟩ = some (.pointer (some ⟨B, 0, none⟩)) ∧ w'.cell? ⟨B, 2, none⟩ = some (.int .i64 C) ∧ w'.cell? ⟨b7, 0, none⟩ = some (.int .i64 n)) (ds := []) #[false, false, false, false, false, false, false, false, false, false] (by kernel_rfl) rfl rfl ⟨h6, hB2, h7⟩ (fun hHeld => ?_); refine with_tabW fl1.tab fl1.bits (fun HT_ HW_ => ?_)); (refine pure_ (i := 1) (N := some 9) (v := ?_) (a' := ?_) #[false, true, false, false, false, false, false, false, false, false] rfl rfl (any_of HT_.out (by kernel_rfl)) (fun _ _ _ h => h) (Or.inl ⟨by rfl, ?_⟩) ?_ ?_); rotate_left
 · intro w'; go_simp; (with_reducible rfl)
 rotate_left
 · simp only [Act.put, List.setIfInBounds_toArray, List.set_cons_zero, List.set_cons_succ, i64_w, i32_w]; rfl
 (refine take_ (i := 0) (N := some 8) (v := ?_) (a' := ?_) #[true, true, false, false, false, false, false, false, false, false] rfl rfl (take_ofW HT_.out HW_.out (by kernel_rfl)) (fun _ _ _ h => h) (Or.inl ⟨by rfl, ?_⟩) hHeld ?_ ?_); rotate_left
 · rintro w' ⟨s0, s1, s2⟩; go_simp; (with_reducible rfl)
 rotate_left
 · simp only [Act.put, List.setIfInBounds_toArray, List.set_cons_zero, List.set_cons_succ, i64_w, i32_w]; rfl
 (refine take_ (i := 2) (N := some 10) (v := ?_) (a' := ?_) #[true, true, true, false, false, false, false, false, false, false] rfl rfl (take_ofW HT_.out HW_.out (by kernel_rfl)) (fun _ _ _ h => h) (Or.inl ⟨by rfl, ?_⟩) hHeld ?_ ?_); rotate_left
 · rintro w' ⟨s0, s1, s2⟩; go_simp; (with_reducible rfl)
 rotate_left
 · simp only [Act.put, List.setIfInBounds_toArray, List.set_cons_zero, List.set_cons_succ, i64_w, i32_w]; rfl
 (refine pure_ (i := 3) (N := some 11) (v := ?_) (a' := ?_) #[true, true, true, true, false, false, false, false, false, false] rfl rfl (any_of HT_.out (by kernel_rfl)) (fun _ _ _ h => h) (Or.inl ⟨by rfl, ?_⟩) ?_ ?_); rotate_left
 · intro w'; go_simp; (with_reducible rfl)
 rotate_left
 · simp only [Act.put, List.setIfInBounds_toArray, List.set_cons_zero, List.set_cons_succ, i64_w, i32_w]; rfl
 (refine pure_ (i := 4) (N := some 12) (v := ?_) (a' := ?_) #[true, true, true, true, true, false, false, false, false, false] rfl rfl (any_of HT_.out (by kernel_rfl)) (fun _ _ _ h => h) (Or.inl ⟨by rfl, ?_⟩) ?_ ?_); rotate_left
 · intro w'; go_simp; (with_reducible rfl)
 rotate_left
 · simp only [Act.put, List.setIfInBounds_toArray, List.set_cons_zero, List.set_cons_succ, i64_w, i32_w]; rfl
 (refine take_ (i := 5) (N := some 13) (v := ?_) (a' := ?_) #[true, true, true, true, true, true, false, false, false, false] rfl rfl (take_ofW HT_.out HW_.out (by kernel_rfl)) (fun _ _ _ h => h) (Or.inl ⟨by rfl, ?_⟩) hHeld ?_ ?_); rotate_left
 · rintro w' ⟨s0, s1, s2⟩; go_simp; (with_reducible rfl)
 rotate_left
 · simp only [Act.put, List.setIfInBounds_toArray, List.set_cons_zero, List.set_cons_succ, i64_w, i32_w]; rfl
 (refine take_ (i := 7) (N := some 15) (v := ?_) (a' := ?_) #[true, true, true, true, true, true, false, true, false, false] rfl rfl (take_ofW HT_.out HW_.out (by kernel_rfl)) (fun _ _ _ h => h) (Or.inl ⟨by rfl, ?_⟩) hHeld ?_ ?_); rotate_left
 · rintro w' ⟨s0, s1, s2⟩; go_simp; (with_reducible rfl)
 rotate_left
 · simp only [Act.put, List.setIfInBounds_toArray, List.set_cons_zero, List.set_cons_succ, i64_w, i32_w]; rfl
 (refine one_ (i := 6) (N := some 14) #[true, true, true, true, true, true, true, true, false, false] rfl rfl (one_of HT_.out (by kernel_rfl)) (by decide) (fun K hK => ?_)); (refine goes_ Try.func54 (by kernel_rfl) rfl #[.pointer (some ⟨B, 0, none⟩), .int .i64 h, .int .i64 C] (by rfl) rfl rfl (by (try simp only [List.map_toArray, List.map_cons, List.map_nil]); first | done | rfl | (simp only [List.length_drop, List.length_take]; rfl)) ?_); (with_reducible refine (colds.calls S H.length A0 H.length c0 A1 c1 C B M h C _ ?s1 HG.out ?s2 HH.out HCC.out).mono ?_); ((case s1 => exact Kd.C_drew HT.out.ss)); ((case s2 => exact HT.out.bo.drewN 1)); rintro e w9 ⟨v, rfl, hr, hb⟩; obtain ⟨AL, cL, rfl, hcl, hrl⟩ := Kd.R_reads hr; (have HB9 := Aside0.mk (show Below w.heap.size w w9 from ⟨hb.os, hb.tape, hb.output, hb.size, hb.block⟩)); have HRL := Aside0.mk hrl; have HCL := Aside0.mk hcl; clear hb hr hrl hcl; refine ⟨_, rfl, ?_⟩; (refine hK.out _ _ ⟨(V6.out.below HB9.out).cell, (blk_cell (HT.out.bo.below HB9.out) 2).trans rfl, (V7.out.below HB9.out).cell⟩ (fun hHeld => ?_)); clear hK K; refine norm_ (a' := ?_) ?_ ?_; rotate_left
 · (show Act.put _ (some 14) _ = _); simp only [Act.put, List.setIfInBounds_toArray, List.set_cons_zero, List.set_cons_succ, i64_w, i32_w]; rfl
 obtain ⟨L, hL⟩ : ∃ L, colds S h C = L := ⟨_, rfl⟩; (have hnL : n ≤ L.length := by rw [← hL]; exact HN.out); (have hlen : L.length ≤ 10 := by rw [← hL]; exact colds_len S h C); have hrl := HRL.out; have hcl := HCL.out; rw [hL] at hrl hcl ⊢; (have hbd : ∀ x ∈ L, 0 ≤ x ∧ x ≤ 1000000 := by rw [← hL]; exact colds_bd HCB.out HH.out HCC.out); obtain ⟨i3, hi3, hsz3⟩ := info3b; (have hcut := cut_to 28 3 .i64 Try.underlying28 hi3 AL L.length cL (n : Int) (by omega) (by omega) hcl); simp only [Int.toNat_natCast] at hcut; (refine pure_ (i := 8) (N := some 16) (v := ?_) (a' := ?_) #[true, true, true, true, true, true, true, true, true, false] rfl rfl (any_of HT_.out (by kernel_rfl)) (fun _ _ _ h => h) (Or.inl ⟨by rfl, ?_⟩) ?_ ?_); rotate_left
 · intro w'; go_simp; (with_reducible rfl)
 rotate_left
 · simp only [Act.put, List.setIfInBounds_toArray, List.set_cons_zero, List.set_cons_succ, i64_w, i32_w]; rfl
 (refine pure_ (i := 9) (N := some 7) (v := ?_) (a' := ?_) #[true, true, true, true, true, true, true, true, true, true] rfl rfl (any_of HT_.out (by kernel_rfl)) (fun _ _ _ h => h) (Or.inl ⟨by rfl, ?_⟩) ?_ ?_); rotate_left
 · intro w'; go_simp; (with_reducible rfl)
 rotate_left
 · simp only [Act.put, List.setIfInBounds_toArray, List.set_cons_zero, List.set_cons_succ, i64_w, i32_w]; rfl
 (refine done_ (done_of HT_.out (by kernel_rfl)) ?_); go_wp2; (have htl : (L.take n).length = n := by rw [List.length_take]; omega); obtain ⟨k, hk⟩ : ∃ k, min f n = k := ⟨_, rfl⟩; (have hkl : k ≤ (L.take n).length := by rw [htl, ← hk]; exact Nat.min_le_right _ _); (obtain ⟨sv, hcut2, hsum⟩ := cut_sum (L.take n) AL cL w9 (Kd.C_take hrl hnL) (by omega) (by omega) (fun x hx => hbd x (List.mem_of_mem_take hx)) k hkl); have HT2 := Aside0.mk (HT.out.below HB9.out); (obtain ⟨ad, e0, _, hx1, _⟩ := at_T60 HT2.out.hs (h : Int) (by omega) (by have := HH.out; omega)); simp only [Int.toNat_natCast] at hx1
 have hkv : (if n < f then (n : Int) else (f : Int)) = (k : Int) := by
  rw [← hk]; by_cases h' : n < f
  · rw [if_pos h', Nat.min_eq_right (by omega)]
  · rw [if_neg h', Nat.min_eq_left (by omega)]
 have hfl : floorB H S h f n C = decide ((rd_T60 H (h : Int)).f0.f1 ≤ ((L.take n).drop k).sum) := by
  unfold floorB; have h2 := drop_min (L.take n) f; rw [htl, hk] at h2; rw [hL, h2]
 obtain ⟨fb, hfb⟩ : ∃ fb, floorB H S h f n C = fb := ⟨_, rfl⟩; have HFB := Aside0.mk hfb; rw [hfb] at hfl; obtain ⟨y, hy⟩ : ∃ y, (rd_T60 H (h : Int)).f0.f1 = y := ⟨_, rfl⟩; obtain ⟨sm, hsm⟩ : ∃ sm, ((L.take n).drop k).sum = sm := ⟨_, rfl⟩; rw [hy] at hx1 hfl; rw [hsm] at hsum hfl; have hdec := hfl.symm; obtain ⟨nH, hnH⟩ : ∃ n, H.length = n := ⟨_, rfl⟩; (have hH' : h < nH := by rw [← hnH]; exact HH.out); (have hb0 : w9.cell? ⟨b2, 0, none⟩ = some (.slice (some ad) nH c0) := by rw [← hnH, ← e0]; exact (blk_cell (V2.out.below HB9.out) 0).trans rfl); have h3 : w9.cell? ⟨b3, 0, none⟩ = some (.int .i64 f) := (V3.out.below HB9.out).cell; have h7' : w9.cell? ⟨b7, 0, none⟩ = some (.int .i64 n) := (V7.out.below HB9.out).cell; rw [htl] at hcut2; clear h6 h7 hB2 hrl hcl hcut hk hkl e0 hfl hy hsm hnH hL hbd htl hnL; go_quiet ((go_at_call 55; exact hsum _)); clear hcut2 hsum; go_wp2; go_ret; (exact ⟨by rw [HFB.out]; rfl, pw_below_drewN HB9.out _⟩)
end Go.Proofs.Ytmkdllaagaimlaa.C
end
section
namespace Go.Proofs.Ytmkdllaagaimlaa.C
open Go.RowKit Go.Proofs.YtmkdllaagaimlaaW.PrintWords Go.Proofs.YtmkdllaagaimlaaW.PrintLast Go.Proofs.YtmkdllaagaimlaaW.PrintMore
set_option linter.unusedVariables false
set_option linter.unusedSimpArgs false
def fl3.T : Bool × List (List Nat × List Nat) := (true, [([], []), ([], []), ([1], [1]), ([2], [2]), ([3], [3]), ([4], [4]), ([0, 5], [0, 5]), ([], []), ([7, 6, 6, 0, 1, 2, 3, 4, 5, 6, 7], [6, 7])])
def fl3.B : List Nat := [0, 0, 2, 6, 14, 30, 63, 0, 255]
theorem fl3.tab : rtab .any (opsOf Try.f16 3) = fl3.T := by kernel_rfl
theorem fl3.bits : waitsOk fl3.T.2 fl3.B = true := by kernel_rfl
def floorG (H : List S60) (S : List S64) (f : Nat) : Int × Int := match (List.range (S.length + 1)).find? (fun n => (List.range H.length).all fun h => floorB H S h f n (2 ^ S.length - 1)) with | some n => (n, 0) | none => (0, 5)
def floorV (H : List S60) (S : List S64) (n : Int) : Int × Int := if (validB H S && (decide (0 ≤ n) && decide (n ≤ 3))) = true then floorG H S n.toNat else (0, 2)
def cool_Floor.f (H : List S60) (S : List S64) (n : Int) : Option (Int × Int) := some (floorV H S n)
theorem memI_full : ∀ m : Nat, m ≤ 10 → (memI (2 ^ m - 1)).length = m := by decide
theorem colds_full {S : List S64} (h : Nat) (hS : S.length ≤ 10) : (colds S h (2 ^ S.length - 1)).length = S.length := by
 unfold colds; rw [(isorted_perm _).length_eq, List.length_map, memI_full _ hS]
theorem Tn.far {w : World} {B M g t : Nat} {A0 : Option Addr} {c0 : Nat} {H : List S60} {A1 : Option Addr} {c1 : Nat} {S : List S64} {C0 : Int} {v : Value} (h : Tn w B M A0 c0 H A1 c1 S C0) (hv : Vr w g t v) (ht : 94 ≠ t) (u : Value) (hs : Kd.C k60 (w.setCell ⟨g, 0, none⟩ u) A0 H.length H) (ss : Kd.C k64 (w.setCell ⟨g, 0, none⟩ u) A1 S.length S) : Tn (w.setCell ⟨g, 0, none⟩ u) B M A0 c0 H A1 c1 S C0 := by
 refine ⟨hs, ss, blk_far h.bo (p := ⟨g, 0, none⟩) (blk_ne h.bo hv ht) _, ?_⟩; obtain ⟨es, cl, h1, h2⟩ := h.mp; (refine ⟨es, cl, (Below.heap_setCell w ⟨g, 0, none⟩ u M (fun e => ?_)).trans h1, h2⟩); have e' : M = g := e; subst e'; unfold Vr at hv; rw [h1] at hv; cases hv
set_option maxHeartbeats 4000000 in
set_option maxRecDepth 100000 in
theorem cool_Floor.calls (A0 : Option Addr) (c0 : Nat) (H : List S60) (A1 : Option Addr) (c1 : Nat) (S : List S64) (a2 : Int) (r1 r2 : Int) (w : World) (hs : Kd.C k60 w A0 H.length H) (hc0 : H.length ≤ c0) (ss : Kd.C k64 w A1 S.length S) (hc1 : S.length ≤ c1) (h : cool_Floor.f H S a2 = some (r1, r2)) :
    Calls Try.prog 16 #[.agg #[.slice A0 H.length c0, .slice A1 S.length c1], .int .i64 a2] w fun e w' => e = .returned (.tuple #[.int .i64 r1, .int .i64 r2]) ∧ Below w.heap.size w w' := by
 have hu25 := Try.underlying25; (have hmf : ∀ (fn : Fn) (first cap : Array Value) (w : World), (Instr.makeFunc fn first cap).run Try.prog w = .ok (.func fn first cap) w := fun _ _ _ _ => rfl); have HS0 := Aside0.mk hs; have HS1 := Aside0.mk ss; have HC0 := Aside0.mk hc0; have HC1 := Aside0.mk hc1; have HR := Aside0.mk (Option.some.inj h); clear hs ss hc0 hc1 h
 cases hv : validB H S with
 | false =>
  have HV := Aside0.mk hv; clear hv; go_enter Try.func16, Try.ntmps16; (go_wp2_with (first | ((with_reducible refine gate_dst (N := 2) rfl ?_); refine box_event ?hg (N := 2) ?hd (cs := #[.slice A0 H.length c0, .slice A1 S.length c1]) (t := 25) ?hr ?_; (case hd => rfl); (case hg => rfl); (case hr => first | (go_simp; done) | (go_simp; rfl)); intro gb hg w8 hbox hb; have HBX := Aside0.mk (show TBox w8 gb A0 H.length c0 A1 S.length c1 from hbox); have HB := Aside0.mk hb; have hc_0 : w8.cell? ⟨gb, 0, none⟩ = some (.slice A0 H.length c0) := (blk_cell hbox 0).trans rfl; have hc_1 : w8.cell? ⟨gb, 1, none⟩ = some (.slice A1 S.length c1) := (blk_cell hbox 1).trans rfl; clear hbox hb hg) | ((with_reducible refine gate_dst (N := 3) rfl ?_); refine box_event ?hg (N := 3) ?hd (cs := #[.int .i64 a2]) (t := 3) ?hr ?_; (case hd => rfl); (case hg => rfl); (case hr => first | (go_simp; done) | (go_simp; rfl)); intro g3 hg w9 hbox hb; have HB3 := Aside0.mk (show Vr w9 g3 3 (.int .i64 a2) from hbox); have n0_ := Aside0.mk (below_step HB.out hb); have n1_ := Aside0.mk (HBX.out.below hb); clear HB HBX hc_0 hc_1; have HB := n0_; have HBX := n1_; have hc_0 : w9.cell? ⟨gb, 0, none⟩ = some (.slice A0 H.length c0) := (blk_cell HBX.out 0).trans rfl; have hc_1 : w9.cell? ⟨gb, 1, none⟩ = some (.slice A1 S.length c1) := (blk_cell HBX.out 1).trans rfl; clear n0_ n1_ hbox hb hg) | (go_at_call 47; (with_reducible refine (cool_valid.calls A0 c0 H A1 c1 S false _ ?s1 HC0.out ?s2 HC1.out ?s3).mono ?_); (case s1 => exact Kd.C_below HS0.out HB.out); (case s2 => exact Kd.C_below HS1.out HB.out); (case s3 => exact congrArg some HV.out); rintro e wv ⟨rfl, hb⟩; have HBV := Aside0.mk (below_step HB.out hb); have HXV := Aside0.mk (HBX.out.below hb); have H3V := Aside0.mk (HB3.out.below hb); have hv3 : wv.cell? ⟨g3, 0, none⟩ = some (.int .i64 a2) := H3V.out.cell; clear hb))); go_ret2; have hr := HR.out; unfold floorV at hr; rw [HV.out] at hr; cases hr; exact ⟨rfl, HBV.out⟩
 | true =>
  obtain ⟨fb, hfb⟩ : ∃ fb, (decide (0 ≤ a2) && decide (a2 ≤ 3)) = fb := ⟨_, rfl⟩; (have HF := Aside0.mk (show cool_failing.f a2 = some fb by rw [failing_f, hfb])); have HFB := Aside0.mk hfb; clear hfb
  cases fb with
  | false =>
   have HV := Aside0.mk hv; clear hv; go_enter Try.func16, Try.ntmps16; (go_wp2_with (first | ((with_reducible refine gate_dst (N := 2) rfl ?_); refine box_event ?hg (N := 2) ?hd (cs := #[.slice A0 H.length c0, .slice A1 S.length c1]) (t := 25) ?hr ?_; (case hd => rfl); (case hg => rfl); (case hr => first | (go_simp; done) | (go_simp; rfl)); intro gb hg w8 hbox hb; have HBX := Aside0.mk (show TBox w8 gb A0 H.length c0 A1 S.length c1 from hbox); have HB := Aside0.mk hb; have hc_0 : w8.cell? ⟨gb, 0, none⟩ = some (.slice A0 H.length c0) := (blk_cell hbox 0).trans rfl; have hc_1 : w8.cell? ⟨gb, 1, none⟩ = some (.slice A1 S.length c1) := (blk_cell hbox 1).trans rfl; clear hbox hb hg) | ((with_reducible refine gate_dst (N := 3) rfl ?_); refine box_event ?hg (N := 3) ?hd (cs := #[.int .i64 a2]) (t := 3) ?hr ?_; (case hd => rfl); (case hg => rfl); (case hr => first | (go_simp; done) | (go_simp; rfl)); intro g3 hg w9 hbox hb; have HB3 := Aside0.mk (show Vr w9 g3 3 (.int .i64 a2) from hbox); have n0_ := Aside0.mk (below_step HB.out hb); have n1_ := Aside0.mk (HBX.out.below hb); clear HB HBX hc_0 hc_1; have HB := n0_; have HBX := n1_; have hc_0 : w9.cell? ⟨gb, 0, none⟩ = some (.slice A0 H.length c0) := (blk_cell HBX.out 0).trans rfl; have hc_1 : w9.cell? ⟨gb, 1, none⟩ = some (.slice A1 S.length c1) := (blk_cell HBX.out 1).trans rfl; clear n0_ n1_ hbox hb hg) | (go_at_call 47; (with_reducible refine (cool_valid.calls A0 c0 H A1 c1 S true _ ?s1 HC0.out ?s2 HC1.out ?s3).mono ?_); (case s1 => exact Kd.C_below HS0.out HB.out); (case s2 => exact Kd.C_below HS1.out HB.out); (case s3 => exact congrArg some HV.out); rintro e wv ⟨rfl, hb⟩; have HBV := Aside0.mk (below_step HB.out hb); have HXV := Aside0.mk (HBX.out.below hb); have H3V := Aside0.mk (HB3.out.below hb); have hv3 : wv.cell? ⟨g3, 0, none⟩ = some (.int .i64 a2) := H3V.out.cell; clear hb) | (go_at_call 48; (with_reducible refine (cool_failing.calls a2 false _ HF.out).mono ?_); rintro e wf ⟨rfl, ⟨nd, rfl⟩⟩; obtain ⟨wf, hwf⟩ : ∃ wf, wv.drewN nd = wf := ⟨_, rfl⟩; rw [hwf]; have HBF := Aside0.mk (show Below w.heap.size w wf by rw [← hwf]; exact pw_below_drewN HBV.out _); have HXF := Aside0.mk (show TBox wf gb A0 H.length c0 A1 S.length c1 by rw [← hwf]; exact HXV.out.drewN _); have H3F := Aside0.mk (show Vr wf g3 3 (.int .i64 a2) by rw [← hwf]; exact H3V.out.drewN _); clear hwf))); go_ret2; have hr := HR.out; unfold floorV at hr; rw [HV.out, HFB.out] at hr; cases hr; exact ⟨rfl, HBF.out⟩
  | true =>
   obtain ⟨v1, v2, v3, v4, v5, v6⟩ := valid_facts hv; have HV := Aside0.mk hv
   obtain ⟨f, rfl, hf3⟩ : ∃ n : Nat, a2 = n ∧ n ≤ 3 := ⟨a2.toNat, by
    have := HFB.out; simp at this; omega, by have := HFB.out; simp at this; omega⟩
   have HR2 := Aside0.mk (show floorG H S f = (r1, r2) by
    have hr := HR.out; unfold floorV at hr; rw [HV.out, HFB.out] at hr
    simpa using hr)
   have HGD := Aside0.mk v5; have HCB := Aside0.mk v6; (have HH6 := Aside0.mk (show H.length ≤ 6 from v2)); have HS10 := Aside0.mk v4; (have HN3 := Aside0.mk (show f ≤ 1000 by omega)); obtain ⟨C, hC⟩ : ∃ C, 2 ^ S.length - 1 = C := ⟨_, rfl⟩; obtain ⟨N, hN⟩ : ∃ N, 2 ^ S.length = N := ⟨_, rfl⟩; (have hsh : wrap64 (2 ^ min S.length 64) = (N : Int) := by rw [← hN]; exact shl_pow2 S.length v4); (have hN2 : N ≤ 1024 := by rw [← hN]; exact Nat.pow_le_pow_right (n := 2) (by decide) v4); (have hN1 : 1 ≤ N := by rw [← hN]; exact Nat.one_le_two_pow)
   have hsh2 : wrap64 ((N : Int) - 1) = (C : Int) := by
    rw [← hC, hN, wrap64_of _ (by omega) (by omega)]; omega
   (have HCC := Aside0.mk (show C < 2 ^ S.length by omega)); have HCE := Aside0.mk hC; clear hv v1 v2 v3 v4 v5 v6 hf3 HR HFB hC hN hN1 hN2; go_enter Try.func16, Try.ntmps16; (go_wp2_with (first | ((with_reducible refine gate_dst (N := 2) rfl ?_); refine box_event ?hg (N := 2) ?hd (cs := #[.slice A0 H.length c0, .slice A1 S.length c1]) (t := 25) ?hr ?_; (case hd => rfl); (case hg => rfl); (case hr => first | (go_simp; done) | (go_simp; rfl)); intro gb hg w8 hbox hb; have HBX := Aside0.mk (show TBox w8 gb A0 H.length c0 A1 S.length c1 from hbox); have HB := Aside0.mk hb; have hc_0 : w8.cell? ⟨gb, 0, none⟩ = some (.slice A0 H.length c0) := (blk_cell hbox 0).trans rfl; have hc_1 : w8.cell? ⟨gb, 1, none⟩ = some (.slice A1 S.length c1) := (blk_cell hbox 1).trans rfl; clear hbox hb hg) | ((with_reducible refine gate_dst (N := 3) rfl ?_); refine box_event ?hg (N := 3) ?hd (cs := #[.int .i64 f]) (t := 3) ?hr ?_; (case hd => rfl); (case hg => rfl); (case hr => first | (go_simp; done) | (go_simp; rfl)); intro g3 hg w9 hbox hb; have HB3 := Aside0.mk (show Vr w9 g3 3 (.int .i64 f) from hbox); have n0_ := Aside0.mk (below_step HB.out hb); have n1_ := Aside0.mk (HBX.out.below hb); clear HB HBX hc_0 hc_1; have HB := n0_; have HBX := n1_; have hc_0 : w9.cell? ⟨gb, 0, none⟩ = some (.slice A0 H.length c0) := (blk_cell HBX.out 0).trans rfl; have hc_1 : w9.cell? ⟨gb, 1, none⟩ = some (.slice A1 S.length c1) := (blk_cell HBX.out 1).trans rfl; clear n0_ n1_ hbox hb hg) | (go_at_call 47; (with_reducible refine (cool_valid.calls A0 c0 H A1 c1 S true _ ?s1 HC0.out ?s2 HC1.out ?s3).mono ?_); (case s1 => exact Kd.C_below HS0.out HB.out); (case s2 => exact Kd.C_below HS1.out HB.out); (case s3 => exact congrArg some HV.out); rintro e wv ⟨rfl, hb⟩; have HBV := Aside0.mk (below_step HB.out hb); have HXV := Aside0.mk (HBX.out.below hb); have H3V := Aside0.mk (HB3.out.below hb); have hv3 : wv.cell? ⟨g3, 0, none⟩ = some (.int .i64 f) := H3V.out.cell; clear hb) | (go_at_call 48; (with_reducible refine (cool_failing.calls f true _ HF.out).mono ?_); rintro e wf ⟨rfl, ⟨nd, rfl⟩⟩; obtain ⟨wf, hwf⟩ : ∃ wf, wv.drewN nd = wf := ⟨_, rfl⟩; rw [hwf]; have HBF := Aside0.mk (show Below w.heap.size w wf by rw [← hwf]; exact pw_below_drewN HBV.out _); have HXF := Aside0.mk (show TBox wf gb A0 H.length c0 A1 S.length c1 by rw [← hwf]; exact HXV.out.drewN _); have H3F := Aside0.mk (show Vr wf g3 3 (.int .i64 f) by rw [← hwf]; exact H3V.out.drewN _); clear hwf))); have hd0 : wf.cell? ⟨gb, 0, none⟩ = some (.slice A0 H.length c0) := (blk_cell HXF.out 0).trans rfl; have hd1 : wf.cell? ⟨gb, 1, none⟩ = some (.slice A1 S.length c1) := (blk_cell HXF.out 1).trans rfl; clear hc_0 hc_1 HB HBX HB3 HBV HXV H3V hv3; (refine start_ (n := 9) (S := fun w' => w'.cell? ⟨gb, 0, none⟩ = some (.slice A0 H.length c0) ∧ w'.cell? ⟨gb, 1, none⟩ = some (.slice A1 S.length c1)) (ds := [8]) #[false, false, false, false, false, false, false, false, false] (by kernel_rfl) rfl rfl ⟨hd0, hd1⟩ (fun hHeld => ?_); refine with_tabW fl3.tab fl3.bits (fun HT_ HW_ => ?_)); (refine take_ (i := 0) (N := some 19) (v := ?_) (a' := ?_) #[true, false, false, false, false, false, false, false, false] rfl rfl (take_ofW HT_.out HW_.out (by kernel_rfl)) (fun _ _ _ h => h) (Or.inl ⟨by rfl, ?_⟩) hHeld ?_ ?_); rotate_left
   · rintro w' ⟨s0, s1⟩; go_simp; (with_reducible rfl)
   rotate_left
   · simp only [Act.put, List.setIfInBounds_toArray, List.set_cons_zero, List.set_cons_succ, i64_w, i32_w]; rfl
   (refine pure_ (i := 1) (N := some 20) (v := ?_) (a' := ?_) #[true, true, false, false, false, false, false, false, false] rfl rfl (any_of HT_.out (by kernel_rfl)) (fun _ _ _ h => h) (Or.inl ⟨by rfl, ?_⟩) ?_ ?_); rotate_left
   · intro w'; go_simp; (with_reducible rfl)
   rotate_left
   · simp only [Act.put, List.setIfInBounds_toArray, List.set_cons_zero, List.set_cons_succ, i64_w, i32_w]; rfl
   (refine take_ (i := 2) (N := some 21) (v := ?_) (a' := ?_) #[true, true, true, false, false, false, false, false, false] rfl rfl (take_ofW HT_.out HW_.out (by kernel_rfl)) (fun _ _ _ h => h) (Or.inl ⟨by rfl, ?_⟩) hHeld ?_ ?_); rotate_left
   · rintro w' ⟨s0, s1⟩; go_simp; (with_reducible rfl)
   rotate_left
   · simp only [Act.put, List.setIfInBounds_toArray, List.set_cons_zero, List.set_cons_succ, i64_w, i32_w]; rfl
   (refine pure_ (i := 3) (N := some 22) (v := ?_) (a' := ?_) #[true, true, true, true, false, false, false, false, false] rfl rfl (any_of HT_.out (by kernel_rfl)) (fun _ _ _ h => h) (Or.inl ⟨by rfl, ?_⟩) ?_ ?_); rotate_left
   · intro w'; go_simp; (with_reducible rfl)
   rotate_left
   · simp only [Act.put, List.setIfInBounds_toArray, List.set_cons_zero, List.set_cons_succ, i64_w, i32_w]; rfl
   (refine pure_ (i := 4) (N := some 23) (v := ?_) (a' := ?_) #[true, true, true, true, true, false, false, false, false] rfl rfl (any_of HT_.out (by kernel_rfl)) (fun _ _ _ h => h) (Or.inl ⟨by rfl, ?_⟩) ?_ ?_); rotate_left
   · intro w'; go_simp; (with_reducible rfl)
   rotate_left
   · simp only [Act.put, List.setIfInBounds_toArray, List.set_cons_zero, List.set_cons_succ, i64_w, i32_w, hsh]; rfl
   (refine pure_ (i := 5) (N := some 24) (v := ?_) (a' := ?_) #[true, true, true, true, true, true, false, false, false] rfl rfl (any_of HT_.out (by kernel_rfl)) (fun _ _ _ h => h) (Or.inl ⟨by rfl, ?_⟩) ?_ ?_); rotate_left
   · intro w'; go_simp; (with_reducible rfl)
   rotate_left
   · simp only [Act.put, List.setIfInBounds_toArray, List.set_cons_zero, List.set_cons_succ, i64_w, i32_w, hsh2]; rfl
   refine join_ (σ := Nat × Nat × Nat) 1 #[true, true, true, true, true, true, true, true, false] (fun s => [(25, .pointer (some ⟨s.1, 0, none⟩)), (6, .pointer (some ⟨s.2.2, 0, none⟩))]) (fun s w' => Tn w' s.1 s.2.1 A0 c0 H A1 c1 S C ∧ Vr w' s.2.2 88 (.pointer none) ∧ TBox w' gb A0 H.length c0 A1 S.length c1 ∧ Vr w' g3 3 (.int .i64 f) ∧ Below w.heap.size w w' ∧ w.heap.size ≤ s.2.2) ?hcont ?hboth
   case hboth =>
    intro hc; (refine two_ (i := 6) (j := 7) (Ni := some 25) (Nj := some 6) #[true, true, true, true, true, true, true, false, false] #[true, true, true, true, true, true, false, true, false] rfl rfl rfl rfl (by kernel_rfl) (by decide) (by decide) (fun K hK => ?_) (fun K hK => ?_))
    · (refine goes_ Try.func51 (by kernel_rfl) rfl #[.agg #[.slice A0 H.length c0, .slice A1 S.length c1], .int .i64 C] (by rfl) rfl rfl (by (try simp only [List.map_toArray, List.map_cons, List.map_nil]); first | done | rfl) ?_); (with_reducible refine (buy.calls A0 c0 H A1 c1 S C _ ?s1 ?s2).mono ?_); ((case s1 => exact Kd.C_below HS0.out (HBF.out.drew))); ((case s2 => exact Kd.C_below HS1.out (HBF.out.drew))); rintro e wu ⟨B, M, rfl, hB, hM, hT, hb⟩; refine ⟨_, rfl, ?_⟩; have HX1 : TBox wu gb A0 H.length c0 A1 S.length c1 := HXF.out.below (w := wf) ⟨hb.os, hb.tape, hb.output, hb.size, hb.block⟩; have H31 : Vr wu g3 3 (.int .i64 f) := H3F.out.below (w := wf) ⟨hb.os, hb.tape, hb.output, hb.size, hb.block⟩; have HB1 : Below w.heap.size w wu := below_step HBF.out.drew hb; (refine hK.out _ _ ⟨(blk_cell HX1 0).trans rfl, (blk_cell HX1 1).trans rfl⟩ (fun hHeld => ?_)); clear hK K; refine norm_ (a' := ?_) ?_ ?_; rotate_left
      · (show Act.put _ (some 25) _ = _); simp only [Act.put, List.setIfInBounds_toArray, List.set_cons_zero, List.set_cons_succ, i64_w, i32_w]; rfl
      (refine one_ (i := 7) (N := some 6) #[true, true, true, true, true, true, true, true, false] rfl rfl (one_of HT_.out (by kernel_rfl)) (by decide) (fun K hK => ?_)); (refine value_ (w1 := wu.alloc (.cells #[.pointer none] 88 (0, 0))) (v := .pointer (some ⟨wu.heap.size, 0, none⟩)) (by rfl) rfl (by go_simp) ?_); (refine hK.out _ _ ⟨(blk_cell (blk_alloc HX1 _) 0).trans rfl, (blk_cell (blk_alloc HX1 _) 1).trans rfl⟩ (fun hHeld => ?_)); clear hK K; refine hc (B, M, wu.heap.size) _ ⟨hT.below (Below.refl _ _ |>.alloc (Nat.le_refl _) _), blk_new wu _, blk_alloc HX1 _, H31.alloc _, HB1.alloc HB1.size _, HB1.size⟩
    · (refine value_ (w1 := wf.drew.alloc (.cells #[.pointer none] 88 (0, 0))) (v := .pointer (some ⟨wf.heap.size, 0, none⟩)) (by rfl) rfl (by go_simp) ?_); have HX1 : TBox (wf.drew.alloc (.cells #[.pointer none] 88 (0, 0))) gb A0 H.length c0 A1 S.length c1 := blk_alloc (w := wf.drew) HXF.out _; have HN1 : Vr (wf.drew.alloc (.cells #[.pointer none] 88 (0, 0))) wf.heap.size 88 (.pointer none) := blk_new wf.drew _; have H31 : Vr (wf.drew.alloc (.cells #[.pointer none] 88 (0, 0))) g3 3 (.int .i64 f) := blk_alloc (w := wf.drew) H3F.out _; have HB1 : Below w.heap.size w (wf.drew.alloc (.cells #[.pointer none] 88 (0, 0))) := HBF.out.drew.alloc HBF.out.size _; (refine hK.out _ _ ⟨(blk_cell HX1 0).trans rfl, (blk_cell HX1 1).trans rfl⟩ (fun hHeld => ?_)); clear hK K; refine norm_ (a' := ?_) ?_ ?_; rotate_left
      · (show Act.put _ (some 6) _ = _); simp only [Act.put, List.setIfInBounds_toArray, List.set_cons_zero, List.set_cons_succ, i64_w, i32_w]; rfl
      generalize wf.drew.alloc (.cells #[.pointer none] 88 (0, 0)) = wa at HX1 HN1 HB1 H31 hHeld ⊢; (refine one_ (i := 6) (N := some 25) #[true, true, true, true, true, true, true, true, false] rfl rfl (one_of HT_.out (by kernel_rfl)) (by decide) (fun K hK => ?_)); (refine goes_ Try.func51 (by kernel_rfl) rfl #[.agg #[.slice A0 H.length c0, .slice A1 S.length c1], .int .i64 C] (by rfl) rfl rfl (by (try simp only [List.map_toArray, List.map_cons, List.map_nil]); first | done | rfl) ?_); (with_reducible refine (buy.calls A0 c0 H A1 c1 S C _ ?s1 ?s2).mono ?_); ((case s1 => exact Kd.C_below HS0.out HB1)); ((case s2 => exact Kd.C_below HS1.out HB1)); rintro e wu ⟨B, M, rfl, hB, hM, hT, hb⟩; refine ⟨_, rfl, ?_⟩; (refine hK.out _ _ ⟨(blk_cell (HX1.below hb) 0).trans rfl, (blk_cell (HX1.below hb) 1).trans rfl⟩ (fun hHeld => ?_)); clear hK K; refine hc (B, M, wf.heap.size) _ ⟨hT, HN1.below hb, HX1.below hb, H31.below hb, below_step HB1 hb, HBF.out.size⟩
   case hcont =>
    rintro ⟨B, M, g6⟩ w6 ⟨hT6, hV6, hX6, h36, hB6, hg6⟩; simp only at hT6 hV6 hg6 ⊢; have hc6 := hV6.cell; have hf6 := hV6.frozen; have HV6 := Aside0.mk (hV6.set (.pointer (some ⟨B, 0, none⟩))); (have HX6 := Aside0.mk (show TBox (w6.setCell ⟨g6, 0, none⟩ (.pointer (some ⟨B, 0, none⟩))) gb A0 H.length c0 A1 S.length c1 from blk_far hX6 (p := ⟨g6, 0, none⟩) (blk_ne hX6 hV6 (by decide)) _)); (have H36 := Aside0.mk (Vr.far h36 (p := ⟨g6, 0, none⟩) (blk_ne h36 hV6 (by decide)) (.pointer (some ⟨B, 0, none⟩)))); have HB6 := Aside0.mk (hB6.setCell (p := ⟨g6, 0, none⟩) hg6 (.pointer (some ⟨B, 0, none⟩))); (have HT6 := Aside0.mk (Tn.far hT6 hV6 (by decide) (.pointer (some ⟨B, 0, none⟩)) (Kd.C_below HS0.out HB6.out) (Kd.C_below HS1.out HB6.out))); clear hT6 hV6 hX6 h36 hB6 hg6; refine norm_ (a' := ?_) ?_ ?_; rotate_left
    · simp only [putAll, Act.put, List.setIfInBounds_toArray, List.set_cons_zero, List.set_cons_succ]; rfl
    (refine last_ (i := 8) (N := none) #[true, true, true, true, true, true, true, true, true] rfl rfl (one_of HT_.out (by kernel_rfl)) (by decide) (fun K hK => ?_)); (refine skip_ (w1 := w6.setCell ⟨g6, 0, none⟩ (.pointer (some ⟨B, 0, none⟩))) (by rfl) rfl (by go_simp) ?_); refine hK.out _ _ ?_; clear hK K; (refine done_ (done_of HT_.out (by kernel_rfl)) ?_); generalize w6.setCell ⟨g6, 0, none⟩ (.pointer (some ⟨B, 0, none⟩)) = w7 at HT6 HV6 HX6 H36 HB6 ⊢; have hx1 : w7.cell? ⟨gb, 1, none⟩ = some (.slice A1 S.length c1) := (blk_cell HX6.out 1).trans rfl; clear hc6 hf6; (have hm1 : wrap64 ((S.length : Int) + 1) = ((S.length + 1 : Nat) : Int) := by rw [wrap64_of _ (by have := HS10.out; omega) (by have := HS10.out; omega)]; omega); go_wp2; rw [hm1]; obtain ⟨m, hm⟩ : ∃ m, S.length + 1 = m := ⟨_, rfl⟩; (have hm11 : m ≤ 11 := by have := HS10.out; omega); have HM := Aside0.mk hm; rw [hm]; clear hm hm1 hx1; (go_loopg [30] m (fun kq v30 wr => ∃ n : Nat, v30 = .int .i64 n ∧ kq + n = m ∧ Aside0 (∀ k, k < n → ((List.range H.length).all fun h => floorB H S h f k C) = false) ∧ Aside0 (Tn wr B M A0 c0 H A1 c1 S C) ∧ Aside0 (Vr wr g6 88 (.pointer (some ⟨B, 0, none⟩))) ∧ Aside0 (TBox wr gb A0 H.length c0 A1 S.length c1) ∧ Aside0 (Vr wr g3 3 (.int .i64 f)) ∧ Aside0 (Below w.heap.size w wr))); (case atStart => exact ⟨0, rfl, by omega, Aside0.mk (fun k hk => absurd hk (Nat.not_lt_zero k)), HT6, HV6, HX6, H36, HB6⟩)
    case round =>
     obtain ⟨n, rfl, hkn, HAL, HT, HV6', HX, H3, HB⟩ := hrel; by_cases hnm : n < m
     · (have hn' : decide ((n : Int) < (m : Int)) = true := by simp; omega); have hx0 : wr.cell? ⟨gb, 0, none⟩ = some (.slice A0 H.length c0) := (blk_cell HX.out 0).trans rfl; have hgbl : gb < wr.heap.size := blk_lt HX.out; go_wp2; have HBa := (Below.refl wr.heap.size wr).alloc (Nat.le_refl _) (.cells #[.int .i64 (n : Int)] 3 (0, 0)); have HT1 := Aside0.mk (HT.out.below HBa); have HV1 := Aside0.mk (HV6'.out.below HBa); have HX1 := Aside0.mk (HX.out.below HBa); have H31 := Aside0.mk (H3.out.below HBa); have HB1 := Aside0.mk (below_step HB.out HBa); (have H71 := Aside0.mk (show Vr (wr.alloc (.cells #[.int .i64 (n : Int)] 3 (0, 0))) wr.heap.size 3 (.int .i64 n) from blk_new wr _)); obtain ⟨g7, hg7⟩ : ∃ g7, wr.heap.size = g7 := ⟨_, rfl⟩; obtain ⟨Wa, hWa⟩ : ∃ Wa, wr.alloc (.cells #[.int .i64 (n : Int)] 3 (0, 0)) = Wa := ⟨_, rfl⟩; rw [hg7] at H71 ⊢; rw [hWa] at HT1 HV1 HX1 H31 HB1 H71 ⊢; clear hg7 hWa HBa HT HV6' HX H3 HB hx0 hgbl; (go_loopg [37, 9] H.length (fun kq v37 v9 wr => ∃ (i : Nat) (b : Bool), v37 = .int .i64 i ∧ v9 = .bool b ∧ kq + i = H.length ∧ Aside0 (((List.range i).all fun h => floorB H S h f n C) = b) ∧ Aside0 (Tn wr B M A0 c0 H A1 c1 S C) ∧ Aside0 (Vr wr g6 88 (.pointer (some ⟨B, 0, none⟩))) ∧ Aside0 (TBox wr gb A0 H.length c0 A1 S.length c1) ∧ Aside0 (Vr wr g3 3 (.int .i64 f)) ∧ Aside0 (Vr wr g7 3 (.int .i64 n)) ∧ Aside0 (Below w.heap.size w wr))); (case atStart => exact ⟨0, true, rfl, rfl, by omega, Aside0.mk rfl, HT1, HV1, HX1, H31, H71, HB1⟩)
       case round =>
        obtain ⟨i, b, rfl, rfl, hki, HAB, HT2, HV2, HX2, H32, H72, HB2⟩ := hrel; by_cases hiH : i < H.length
        · (have hi' : decide ((i : Int) < (H.length : Int)) = true := by simp; omega); have hH6 : H.length ≤ 6 := HH6.out; have HI := Aside0.mk hiH
          cases b with
          | false =>
           go_wp2; go_roundg (H.length - (i + 1)); (case measure => omega)
           case rel =>
            (refine ⟨i + 1, false, (congrArg (Value.int .i64) (by first | omega | (rw [wrap64_of _ (by omega) (by omega)]; omega))), rfl, by omega, Aside0.mk ?_, HT2, HV2, HX2, H32, H72, HB2⟩); rw [List.range_succ, List.all_append, HAB.out]; rfl
          | true =>
           obtain ⟨fb, hfb⟩ : ∃ fb, floorB H S i f n C = fb := ⟨_, rfl⟩; (have hfc := floor1.calls B M A0 c0 H A1 c1 S g6 g7 g3 gb i f n C _ HT2.out HGD.out HCB.out HI.out HCC.out HN3.out (by rw [← HCE.out, colds_full i HS10.out]; have := HM.out; omega) HV2.out H72.out H32.out HX2.out); rw [hfb] at hfc; have HFB := Aside0.mk hfb; clear hfb; (go_wp2_with (go_at_call 53; (with_reducible refine hfc.mono ?_); rintro e we ⟨rfl, hb⟩; have HBE := Aside0.mk hb; clear hb)); go_roundg (H.length - (i + 1)); (case measure => omega)
           case rel =>
            (refine ⟨i + 1, fb, (congrArg (Value.int .i64) (by first | omega | (rw [wrap64_of _ (by omega) (by omega)]; omega))), rfl, by omega, Aside0.mk ?_, Aside0.mk (HT2.out.below HBE.out), Aside0.mk (HV2.out.below HBE.out), Aside0.mk (HX2.out.below HBE.out), Aside0.mk (H32.out.below HBE.out), Aside0.mk (H72.out.below HBE.out), Aside0.mk (below_step HB2.out HBE.out)⟩); rw [List.range_succ, List.all_append, HAB.out]; simp [HFB.out]
        · (have hi' : decide ((i : Int) < (H.length : Int)) = false := by simp; omega); (obtain rfl : i = H.length := by omega); have h7c := H72.out.cell
          cases b with
          | true =>
           go_wp2; go_ret2; refine ⟨?_, HB2.out⟩; have hr := HR2.out; unfold floorG at hr
           have hfind : (List.range (S.length + 1)).find? (fun n => (List.range H.length).all fun h => floorB H S h f n (2 ^ S.length - 1)) = some n := by
            rw [HM.out, HCE.out, List.find?_range_eq_some]; (exact ⟨HAB.out, List.mem_range.2 hnm, fun j hj => by rw [HAL.out j hj]; rfl⟩)
           rw [hfind] at hr; cases hr; rfl
          | false =>
           go_wp2; go_roundg (m - (n + 1)); (case measure => omega)
           case rel =>
            (refine ⟨n + 1, (congrArg (Value.int .i64) (by first | omega | (rw [wrap64_of _ (by omega) (by omega)]; omega))), by omega, Aside0.mk ?_, HT2, HV2, HX2, H32, HB2⟩); intro k hk; (rcases Nat.lt_succ_iff_lt_or_eq.1 hk with h | rfl)
            · exact HAL.out k h
            · exact HAB.out
     · (have hn' : decide ((n : Int) < (m : Int)) = false := by simp; omega); go_wp2; go_ret2; refine ⟨?_, HB.out⟩; have hr := HR2.out; unfold floorG at hr
       have hfind : (List.range (S.length + 1)).find? (fun n => (List.range H.length).all fun h => floorB H S h f n (2 ^ S.length - 1)) = none := by
        rw [HM.out, HCE.out, List.find?_eq_none]; intro k hk; (rw [HAL.out k (by have := List.mem_range.1 hk; omega)]); simp
       rw [hfind] at hr; cases hr; rfl
end Go.Proofs.Ytmkdllaagaimlaa.C
end
section
namespace Go.Proofs.Ytmkdllaagaimlaa.C
open Go.RowKit Go.Proofs.YtmkdllaagaimlaaW.PrintWords Go.Proofs.YtmkdllaagaimlaaW.PrintLast Go.Proofs.YtmkdllaagaimlaaW.PrintMore
set_option linter.unusedVariables false
set_option linter.unusedSimpArgs false
def clr (a i : Nat) : Nat := (BitVec.ofNat 64 a &&& ~~~ BitVec.ofNat 64 (2 ^ i)).toNat
theorem clr_bit {a : Nat} (i j : Nat) (ha : a < 2 ^ 64) : (clr a i).testBit j = (a.testBit j && decide (j ≠ i)) := by
 unfold clr; rw [BitVec.testBit_toNat, BitVec.getLsbD_and, BitVec.getLsbD_not, BitVec.getLsbD_ofNat, BitVec.getLsbD_ofNat, Nat.testBit_two_pow]; by_cases hj : j < 64
 · by_cases hji : i = j
   · simp [hj, hji]
   · (have : ¬ j = i := fun e => hji e.symm); simp [hj, hji, this]
 · (have hz : a.testBit j = false := Nat.testBit_lt_two_pow (Nat.lt_of_lt_of_le ha (Nat.pow_le_pow_right (by decide) (by omega)))); simp [hj, hz]
theorem clr_lt {a n : Nat} (i : Nat) (ha : a < 2 ^ n) (hn : n ≤ 64) : clr a i < 2 ^ n := by
 apply Nat.lt_pow_two_of_testBit; intro j hj; (rw [clr_bit i j (Nat.lt_of_lt_of_le ha (Nat.pow_le_pow_right (by decide) hn))]); (have hz : a.testBit j = false := Nat.testBit_lt_two_pow (Nat.lt_of_lt_of_le ha (Nat.pow_le_pow_right (by decide) hj))); simp [hz]
theorem bits_clr {a : Nat} (i : Nat) (ha : a < 2 ^ 62) : bits .andNot .i64 a ((2 ^ i : Nat) : Int) = (clr a i : Int) := by
 (have h := clr_lt i ha (by decide)); (have : ((clr a i : Nat) : Int) < 2 ^ 62 := by exact_mod_cast h); simp only [bits, BitVec.ofInt_natCast]; exact wraps_i64 _ (Int.natCast_nonneg _) this
structure K2 (w w' : World) (a b : Nat) : Prop where
  os : w'.os = w.os
  tape : w'.tape = w.tape
  output : w'.output = w.output
  size : w.heap.size ≤ w'.heap.size
  block : ∀ k, k < w.heap.size → k ≠ a → k ≠ b → w'.heap[k]? = w.heap[k]?
theorem K2.refl (w : World) (a b : Nat) : K2 w w a b := ⟨rfl, rfl, rfl, Nat.le_refl _, fun _ _ _ _ => rfl⟩
theorem K2.trans {w w1 w2 : World} {a b : Nat} (h : K2 w w1 a b) (k : K2 w1 w2 a b) : K2 w w2 a b :=
  ⟨k.os.trans h.os, k.tape.trans h.tape, k.output.trans h.output, Nat.le_trans h.size k.size, fun i hi h1 h2 => (k.block i (Nat.lt_of_lt_of_le hi h.size) h1 h2).trans (h.block i hi h1 h2)⟩
theorem K2.ofA {w w1 : World} {a : Nat} (h : w.grownBy w1 (some a)) (b : Nat) : K2 w w1 a b := ⟨h.os, h.tape, h.output, h.size, fun i hi h1 _ => h.block i hi (fun e => h1 (Option.some.inj e))⟩
theorem K2.ofB {w w1 : World} {b : Nat} (h : w.grownBy w1 (some b)) (a : Nat) : K2 w w1 a b := ⟨h.os, h.tape, h.output, h.size, fun i hi _ h1 => h.block i hi (fun e => h1 (Option.some.inj e))⟩
theorem K2.drewN {w w1 : World} {a b : Nat} (h : K2 w w1 a b) (n : Nat) : K2 w (w1.drewN n) a b := ⟨h.os, h.tape, h.output, h.size, h.block⟩
theorem K2.blk {w w1 : World} {a b g : Nat} {o : Obj} (h : K2 w w1 a b) (hg : w.heap[g]? = some o) (ha : g ≠ a) (hb : g ≠ b) : w1.heap[g]? = some o := (h.block g (blk_lt hg) ha hb).trans hg
theorem K2.low {w0 w w1 : World} {a b : Nat} (h0 : Below w0.heap.size w0 w) (h : K2 w w1 a b) (ha : w0.heap.size ≤ a) (hb : w0.heap.size ≤ b) : Below w0.heap.size w0 w1 :=
  ⟨h.os.trans h0.os, h.tape.trans h0.tape, h.output.trans h0.output, Nat.le_trans h0.size h.size, fun k hk => (h.block k (Nat.lt_of_lt_of_le hk h0.size) (by omega) (by omega)).trans (h0.block k hk)⟩
theorem RI_typed {w : World} {base : Nat} {ok : Nat → Prop} {g o : Nat} {n c : Nat} {xs : List Int} (h : Kd.R (Kd.int .i64) 3 w base ok (.slice (some ⟨g, o, none⟩) n c) xs) : ∃ cs, w.heap[g]? = some (.cells cs 3 (0, 0)) := by
 obtain ⟨_, _, h1, q, hq, hc⟩ := (Kd.R_bound h).1 g rfl; have hq' : q ∈ [3] := hq; have : q = 3 := List.mem_singleton.1 hq'; subst this; exact hc
def lookL (H : List S60) (S : List S64) (W : Nat) (week : Int) (out : List Int) : List Int := (List.range out.length).map fun (h : Nat) => if rd out (h : Int) < 0 ∧ levelB H S h 0 W = true then week else rd out (h : Int)
def lookP (H : List S60) (S : List S64) (W : Nat) (week : Int) (out : List Int) (i : Nat) : List Int := (List.range out.length).map fun (h : Nat) => if h < i ∧ rd out (h : Int) < 0 ∧ levelB H S h 0 W = true then week else rd out (h : Int)
theorem lookP_zero (H : List S60) (S : List S64) (W : Nat) (week : Int) (out : List Int) : lookP H S W week out 0 = out := by
 apply List.ext_getElem
 · simp [lookP]
 · intro i h1 h2; simp [lookP, rd, List.getD_eq_getElem?_getD, List.getElem?_eq_getElem h2]
theorem lookP_all (H : List S60) (S : List S64) (W : Nat) (week : Int) (out : List Int) : lookP H S W week out out.length = lookL H S W week out := by
 unfold lookP lookL; apply List.map_congr_left; intro h hh; simp [List.mem_range.1 hh]
theorem lookL_len (H : List S60) (S : List S64) (W : Nat) (week : Int) (out : List Int) : (lookL H S W week out).length = out.length := by simp [lookL]
theorem lookP_rd {H : List S60} {S : List S64} {W : Nat} {week : Int} {out : List Int} {i : Nat} (hi : i < out.length) : rd (lookP H S W week out i) (i : Int) = rd out (i : Int) := by
 simp [lookP, rd, List.getD_eq_getElem?_getD, hi]
theorem lookP_hit {H : List S60} {S : List S64} {W : Nat} {week : Int} {out : List Int} {i : Nat} (hi : i < out.length) (h1 : rd out (i : Int) < 0) (h2 : levelB H S i 0 W = true) : lookP H S W week out (i + 1) = (lookP H S W week out i).set i week := by
 apply List.ext_getElem
 · simp [lookP]
 · intro j h3 h4; (have hj : j < out.length := by simpa [lookP] using h3); rw [List.getElem_set]; by_cases hji : i = j
   · subst hji; simp [lookP, h1, h2]
   · rw [if_neg hji]; simp only [lookP, List.getElem_map, List.getElem_range]; (have e : (j < i + 1) ↔ (j < i) := by omega); simp only [e]
theorem lookP_miss {H : List S60} {S : List S64} {W : Nat} {week : Int} {out : List Int} {i : Nat} (h : ¬ (rd out (i : Int) < 0 ∧ levelB H S i 0 W = true)) : lookP H S W week out (i + 1) = lookP H S W week out i := by
 unfold lookP; apply List.map_congr_left; intro j hj; by_cases hji : j = i
 · subst hji; (rw [if_neg (fun e => h e.2), if_neg (fun e => h e.2)])
 · (have e : (j < i + 1) ↔ (j < i) := by omega); simp only [e]
end Go.Proofs.Ytmkdllaagaimlaa.C
end
section
namespace Go.Proofs.Ytmkdllaagaimlaa.C
open Go.RowKit Go.Proofs.YtmkdllaagaimlaaW.PrintWords Go.Proofs.YtmkdllaagaimlaaW.PrintLast Go.Proofs.YtmkdllaagaimlaaW.PrintMore
set_option linter.unusedVariables false
set_option linter.unusedSimpArgs false
theorem ne_map {w : World} {g M t : Nat} {v : Value} {H : List S60} {S : List S64} (h : Vr w g t v) (hm : Mp w M H S) : g ≠ M := by
 rintro rfl; obtain ⟨es, cl, h1, _⟩ := hm; unfold Vr at h; rw [h1] at h; cases h
theorem mp_row {w : World} {M gR base n cap : Nat} {ok : Nat → Prop} {xs : List Int} {H : List S60} {S : List S64} (h : Mp w M H S) (hr : Kd.R (Kd.int .i64) 3 w base ok (.slice (some ⟨gR, 0, none⟩) n cap) xs) (i : Nat) (u : Value) : Mp (w.setCell ⟨gR, i, none⟩ u) M H S := by
 obtain ⟨es, cl, h1, h2⟩ := h; obtain ⟨cs, hcs⟩ := RI_typed hr; (refine ⟨es, cl, (Below.heap_setCell w ⟨gR, i, none⟩ u M (fun e => ?_)).trans h1, h2⟩); have e' : M = gR := e; subst e'; rw [h1] at hcs; cases hcs
theorem ne_row {w : World} {g gR t : Nat} {v : Value} {cs : Array Value} (h : Vr w g t v) (hr : w.heap[gR]? = some (.cells cs 3 (0, 0))) (ht : t ≠ 3) : g ≠ gR := blk_ne h hr ht
set_option maxHeartbeats 4000000 in
set_option maxRecDepth 100000 in
theorem again1.calls (w0 : World) (B M : Nat) (A0 : Option Addr) (c0 : Nat) (H : List S60) (A1 : Option Addr) (c1 : Nat) (S : List S64) (C0 : Int) (gR cap g8 g2 g5 g10 W : Nat) (week : Int) (xs : List Int) (base : Nat) (ok : Nat → Prop) (w : World) (hs : Kd.C k60 w0 A0 H.length H) (ss : Kd.C k64 w0 A1 S.length S) (hlow : Below w0.heap.size w0 w) (hM : w0.heap.size ≤ M) (hgR : w0.heap.size ≤ gR)
    (hbo : Bo w B A0 H.length c0 A1 S.length c1 C0 M) (hmp : Mp w M H S) (hG : Gd S H.length) (hCb : Cb S H.length) (hW : W < 2 ^ S.length) (hn : xs.length = H.length) (hH6 : H.length ≤ 6)
    (v8 : Vr w g8 28 (.slice (some ⟨gR, 0, none⟩) H.length cap)) (v2 : Vr w g2 88 (.pointer (some ⟨B, 0, none⟩))) (v5 : Vr w g5 84 (.int .i64 W)) (v10 : Vr w g10 3 (.int .i64 week)) (hR : Kd.R (Kd.int .i64) 3 w base ok (.slice (some ⟨gR, 0, none⟩) H.length cap) xs) (hne : g10 ≠ gR) :
    Calls Try.prog 88 #[.pointer (some ⟨g8, 0, none⟩), .pointer (some ⟨g2, 0, none⟩), .pointer (some ⟨g5, 0, none⟩), .pointer (some ⟨g10, 0, none⟩)] w fun e w' => e = .returned (.tuple #[]) ∧ Mp w' M H S ∧ Kd.R (Kd.int .i64) 3 w' base ok (.slice (some ⟨gR, 0, none⟩) H.length cap) (lookL H S W week xs) ∧ K2 w w' gR M := by
 have hu108 := Try.underlying108; obtain ⟨cs, hcs⟩ := RI_typed hR; (have N8 := Aside0.mk (And.intro (ne_row v8 hcs (by decide)) (ne_map v8 hmp))); (have N2 := Aside0.mk (And.intro (ne_row v2 hcs (by decide)) (ne_map v2 hmp))); (have N5 := Aside0.mk (And.intro (ne_row v5 hcs (by decide)) (ne_map v5 hmp))); have N10 := Aside0.mk (And.intro hne (ne_map v10 hmp))
 have NB : Aside0 (B ≠ gR ∧ B ≠ M) := ⟨⟨blk_ne hbo hcs (by decide), by
  rintro rfl; obtain ⟨es, cl, h1, _⟩ := hmp; unfold Bo at hbo; rw [h1] at hbo
  cases hbo⟩⟩
 have HS0 := Aside0.mk hs; have HS1 := Aside0.mk ss; have HLOW := Aside0.mk hlow; have HM0 := Aside0.mk hM; have HR0 := Aside0.mk hgR; have HBO := Aside0.mk hbo; have HG := Aside0.mk hG; have HCB := Aside0.mk hCb; have HW := Aside0.mk hW; have HX := Aside0.mk hn; have V8 := Aside0.mk v8; have V2 := Aside0.mk v2; have V5 := Aside0.mk v5; have V10 := Aside0.mk v10; have HRI := Aside0.mk hR; have HMI := Aside0.mk hmp; have h8 := v8.cell; obtain ⟨nH, hnH⟩ : ∃ n, H.length = n := ⟨_, rfl⟩; have HNH := Aside0.mk hnH; rw [hnH] at h8 V8 hH6 HRI HX ⊢; clear hs ss hlow hM hgR hbo hmp hG hCb hW hn v8 v2 v5 v10 hR hne hcs hnH; go_enter Try.func88, Try.ntmps88; go_wp2; (go_loopg [7] nH (fun kq v7 wr => ∃ i : Nat, v7 = .int .i64 i ∧ kq + i = nH ∧ Aside0 (Mp wr M H S) ∧ Aside0 (Kd.R (Kd.int .i64) 3 wr base ok (.slice (some ⟨gR, 0, none⟩) nH cap) (lookP H S W week xs i)) ∧ Aside0 (K2 w wr gR M))); (case atStart => exact ⟨0, rfl, rfl, HMI, Aside0.mk (by rw [lookP_zero]; exact HRI.out), Aside0.mk (K2.refl _ _ _)⟩)
 case round =>
  obtain ⟨i, rfl, hki, HMP, HRR, HK⟩ := hrel; by_cases hi : i < nH
  · (have hi' : decide ((i : Int) < (nH : Int)) = true := by simp; omega); (have hd0 : decide (0 ≤ (i : Int)) = true := by simp); have hr8 : wr.cell? ⟨g8, 0, none⟩ = some (.slice (some ⟨gR, 0, none⟩) nH cap) := (blk_cell (HK.out.blk V8.out N8.out.1 N8.out.2) 0).trans rfl; have hr2 : wr.cell? ⟨g2, 0, none⟩ = some (.pointer (some ⟨B, 0, none⟩)) := (blk_cell (HK.out.blk V2.out N2.out.1 N2.out.2) 0).trans rfl; have hr5 : wr.cell? ⟨g5, 0, none⟩ = some (.int .i64 W) := (blk_cell (HK.out.blk V5.out N5.out.1 N5.out.2) 0).trans rfl; (obtain ⟨hcx, hfx⟩ := Kd.R_celln (0 : Int) HRR.out (i : Int) (by omega) (by omega)); simp only [Int.toNat_natCast] at hcx hfx; obtain ⟨x, hx⟩ : ∃ x, rd xs (i : Int) = x := ⟨_, rfl⟩
    have hcx' : wr.cell? ⟨gR, i, none⟩ = some (.int .i64 x) := by
     (rw [← hx, ← lookP_rd (H := H) (S := S) (W := W) (week := week) (show i < xs.length by rw [HX.out]; exact hi)]); exact hcx
    clear hcx; have HLOW2 := Aside0.mk (K2.low HLOW.out HK.out HR0.out HM0.out); (have HTR := Aside0.mk (show Tn wr B M A0 c0 H A1 c1 S C0 from ⟨Kd.C_below HS0.out HLOW2.out, Kd.C_below HS1.out HLOW2.out, HK.out.blk HBO.out NB.out.1 NB.out.2, HMP.out⟩)); by_cases hx0 : x < 0
    · (have hxd : decide (x < 0) = true := by simp [hx0]); obtain ⟨lv, hlv⟩ : ∃ lv, levelB H S i 0 W = lv := ⟨_, rfl⟩
      have hlc : Calls Try.prog 70 #[.pointer (some ⟨B, 0, none⟩), .agg #[.int .i64 i, .int .i64 0, .int .i64 W]] wr fun e w' => e = .returned (.bool lv) ∧ Tn w' B M A0 c0 H A1 c1 S C0 ∧ wr.grownBy w' (some M) := by
       (have h := level.calls B M A0 c0 H A1 c1 S C0 i 0 W wr HTR.out HG.out HCB.out (by rw [HNH.out]; exact hi) HW.out (by decide)); rw [hlv] at h; exact h
      have HLV := Aside0.mk hlv; have HXX := Aside0.mk (And.intro hx hx0); clear hlv hx
      cases lv with
      | true =>
       (go_wp2_with (go_at_call 70; (refine hlc.mono ?_); rintro e wl ⟨rfl, ht, hg⟩; have HTL := Aside0.mk ht; have HGL := Aside0.mk hg; clear ht hg; have HKL := Aside0.mk (HK.out.trans (K2.ofB HGL.out gR)); have HRL := Aside0.mk (RI_keep HRR.out (fun k hk hc => HGL.out.block k hk (fun e => by cases e; obtain ⟨cs, hc⟩ := hc; obtain ⟨es, cl, h1, _⟩ := HMP.out; rw [h1] at hc; cases hc))); have hl8 : wl.cell? ⟨g8, 0, none⟩ = some (.slice (some ⟨gR, 0, none⟩) nH cap) := (blk_cell (HKL.out.blk V8.out N8.out.1 N8.out.2) 0).trans rfl; have hl10 : wl.cell? ⟨g10, 0, none⟩ = some (.int .i64 week) := (blk_cell (HKL.out.blk V10.out N10.out.1 N10.out.2) 0).trans rfl; obtain ⟨hcl, hfl⟩ := Kd.R_celln (0 : Int) HRL.out (i : Int) (by omega) (by omega); simp only [Int.toNat_natCast] at hcl hfl)); have hput := Kd.R_putg HRL.out (i : Int) week; simp only [Int.toNat_natCast] at hput; go_roundg (nH - (i + 1)); (case measure => omega)
       case rel =>
        (refine ⟨i + 1, (congrArg (Value.int .i64) (by first | omega | (rw [wrap64_of _ (by omega) (by omega)]; omega))), by omega, Aside0.mk (mp_row HTL.out.mp HRL.out i (.int .i64 week)), Aside0.mk ?_, Aside0.mk (HKL.out.trans (K2.ofA hput.2 M))⟩); (rw [lookP_hit (by rw [HX.out]; exact hi) (by rw [HXX.out.1]; exact HXX.out.2) HLV.out]); exact hput.1
      | false =>
       (go_wp2_with (go_at_call 70; (refine hlc.mono ?_); rintro e wl ⟨rfl, ht, hg⟩; have HTL := Aside0.mk ht; have HGL := Aside0.mk hg; clear ht hg; have HKL := Aside0.mk (HK.out.trans (K2.ofB HGL.out gR)); have HRL := Aside0.mk (RI_keep HRR.out (fun k hk hc => HGL.out.block k hk (fun e => by cases e; obtain ⟨cs, hc⟩ := hc; obtain ⟨es, cl, h1, _⟩ := HMP.out; rw [h1] at hc; cases hc))); have hl8 : wl.cell? ⟨g8, 0, none⟩ = some (.slice (some ⟨gR, 0, none⟩) nH cap) := (blk_cell (HKL.out.blk V8.out N8.out.1 N8.out.2) 0).trans rfl; have hl10 : wl.cell? ⟨g10, 0, none⟩ = some (.int .i64 week) := (blk_cell (HKL.out.blk V10.out N10.out.1 N10.out.2) 0).trans rfl; obtain ⟨hcl, hfl⟩ := Kd.R_celln (0 : Int) HRL.out (i : Int) (by omega) (by omega); simp only [Int.toNat_natCast] at hcl hfl)); go_roundg (nH - (i + 1)); (case measure => omega)
       case rel =>
        (refine ⟨i + 1, (congrArg (Value.int .i64) (by first | omega | (rw [wrap64_of _ (by omega) (by omega)]; omega))), by omega, Aside0.mk HTL.out.mp, Aside0.mk ?_, HKL⟩); (rw [lookP_miss (fun e => by rw [HLV.out] at e; exact absurd e.2 (by decide))]); exact HRL.out
    · (have hxd : decide (x < 0) = false := by simp; omega); have HXX := Aside0.mk (And.intro hx hx0); clear hx; go_wp2; go_roundg (nH - (i + 1)); (case measure => omega)
      case rel =>
       (refine ⟨i + 1, (congrArg (Value.int .i64) (by first | omega | (rw [wrap64_of _ (by omega) (by omega)]; omega))), by omega, HMP, Aside0.mk ?_, HK⟩); (rw [lookP_miss (fun e => by have h1 := e.1; rw [HXX.out.1] at h1; have := HXX.out.2; omega)]); exact HRR.out
  · (have hi' : decide ((i : Int) < (nH : Int)) = false := by simp; omega); go_wp2; go_end0; (obtain rfl : i = nH := by omega); refine ⟨rfl, HMP.out, ?_, HK.out⟩; have h := HRR.out; rw [← HX.out, lookP_all] at h; rw [← HX.out]; exact h
end Go.Proofs.Ytmkdllaagaimlaa.C
end
