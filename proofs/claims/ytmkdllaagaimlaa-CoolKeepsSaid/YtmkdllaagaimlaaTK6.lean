/- CoolKeeps: for every input the law returns true. -/
import Derived.Test.YtmkdllaagaimlaaRows
import Derived.Test.YtmkdllaagaimlaaTK5
import Derived.ChangeSame
import Derived.Deep.Strs
import Derived.Deep.Slices
import Derived.WalkKit
import Derived.ProofKit
import Derived.OpenShut
import Derived.ShutString
import Derived.ChangeOld
import Derived.Below
import Derived.SizedLaws
import Derived.Carry
section
namespace Go.Proofs.Ytmkdllaagaimlaa.C
open Go.RowKit Go.Proofs.YtmkdllaagaimlaaW.PrintWords Go.Proofs.YtmkdllaagaimlaaW.PrintLast Go.Proofs.YtmkdllaagaimlaaW.PrintMore
set_option linter.unusedVariables false
set_option linter.unusedSimpArgs false
def rbk (H : List S60) (S : List S64) (b : List Int) (f : Nat) : List Nat → Int × List Int
  | [] => (-1, [])
  | h :: r => match rb H S b f h with | some c => ((h : Int), c) | none => rbk H S b f r
section
variable {H : List S60} {S : List S64} (hv : validB H S = true) {b : List Int} (hb : b.length ≤ 15) (hbS : ∀ x ∈ b, 0 ≤ x ∧ x < (S.length : Int))
include hv hb hbS
theorem break_l0 (f : Nat) (hf : f ≤ 90) : ∀ d h : Nat, h + d = H.length → Ev (fun k => talikref03_Break.l0 k b f h H S) (rbk H S b f (List.range' h d)) := by
 obtain ⟨v1, v2, v3, v4, v5, v6⟩ := valid_facts hv; intro d
 induction d with
 | zero =>
  intro h hh; (refine Ev.step (f := fun _ => some ((-1 : Int), ([] : List Int))) (fun k => ?_) (Ev.now _)); (simp only [talikref03_Break.l0]; rw [if_neg (by omega)])
 | succ d ih =>
  intro h hh; (refine Ev.step (f := fun k => (talikref03_Breaks.f k H S b f h).bind fun bt380 => (if bt380.2 = true then (some ((h : Int), bt380.1)) else (talikref03_Break.l0 k b f ((h + 1 : Nat) : Int) H S))) (fun k => ?_) (Ev.bind (Breaks_ev hv hb hbS (by omega) f hf) ?_))
  · simp only [talikref03_Break.l0]; rw [if_pos (by omega), w1 (by omega)]
  · rw [List.range'_succ]; unfold rbk
    cases rb H S b f h with
    | some c => simpa [rbO] using Ev.now _
    | none => simpa [rbO] using ih (h + 1) (by omega)
theorem Break_ev (f : Nat) (hf : f ≤ 90) : Ev (fun k => talikref03_Break.f k H S b f) (rbk H S b f (List.range H.length)) := by
 (have := break_l0 hv hb hbS f hf H.length 0 (by omega)); rw [← List.range_eq_range'] at this; exact this
end
theorem rbk_brk {H : List S60} {S : List S64} (hv : validB H S = true) {b : List Int} (hi : incr S.length (-1) b = true) (f : Nat) : ∀ L : List Nat, (∀ h ∈ L, h < H.length) →
    match L.find? (fun h => !levelB H S h f (maskN b)) with
    | none => rbk H S b f L = (-1, [])
    | some h => rbk H S b f L = ((h : Int), breakL H S (maskN b) h f)
  | [], _ => rfl
  | h :: L, hL => by
    have ih := rbk_brk hv hi f L fun x hx => hL x (List.mem_cons_of_mem _ hx)
    have hh := hL h (List.mem_cons_self ..)
    have hn := rb_none hv hi (f := f) hh
    rw [List.find?_cons]
    unfold rbk
    cases hr : rb H S b f h with
    | none =>
      rw [hn.1 hr]
      simpa using ih
    | some c =>
      have : levelB H S h f (maskN b) = false := by
        cases hl : levelB H S h f (maskN b) with
        | false => rfl
        | true => rw [hn.2 hl] at hr; cases hr
      rw [this]
      simp only [Bool.not_false]
      rw [breakL_rb hv hi hr]
theorem Break_ev' {H : List S60} {S : List S64} (hv : validB H S = true) {b : List Int} (hb : b.length ≤ 15) (hi : incr S.length (-1) b = true) (f : Nat) (hf : f ≤ 90) : Ev (fun k => talikref03_Break.f k H S b f) (match brk H S f (maskN b) with | none => (-1, []) | some h => ((h : Int), breakL H S (maskN b) h f)) := by
 (have h1 := Break_ev hv hb (fun x hx => (incr_lt hi x hx).2) f hf); (have h2 := rbk_brk hv hi f (List.range H.length) (fun h hh => List.mem_range.1 hh)); unfold brk
 cases hfd : (List.range H.length).find? (fun h => !levelB H S h f (maskN b)) with
 | none => rw [hfd] at h2; simp only at h2 ⊢; rwa [h2] at h1
 | some h => rw [hfd] at h2; simp only at h2 ⊢; rwa [h2] at h1
theorem Keeps_ev {H : List S60} {S : List S64} (hv : validB H S = true) {b : List Int} (hb : b.length ≤ 15) (hi : incr S.length (-1) b = true) (f : Nat) (hf : f ≤ 90) : Ev (fun k => talikref03_Keeps.f k H S b f) (!(brk H S f (maskN b)).isSome) := by
 unfold talikref03_Keeps.f; refine Ev.bind (Break_ev' hv hb hi f hf) ?_
 cases brk H S f (maskN b) with
 | none => exact Ev.now _
 | some h =>
  (have : decide ((h : Int) < 0) = false := by rw [decide_eq_false_iff_not]; omega); simp only [this, Option.isSome_some, Bool.not_true]; exact Ev.now _
theorem bears_l0 {H : List S60} {S : List S64} (hv : validB H S = true) {b : List Int} (hb : b.length ≤ 15) (hi : incr S.length (-1) b = true) (m : Int) (hm1 : -1 ≤ m) (hm3 : m ≤ 3) (hm : ∀ f : Nat, f ≤ 3 → ((brk H S f (maskN b)).isSome = false ↔ (f : Int) ≤ m)) : ∀ (d : Nat) (n : Int), -1 ≤ n → n + d = m → Ev (fun k => talikref03_Bears.l0 k b n H S) m := by
 intro d
 induction d with
 | zero =>
  intro n hn hd; (obtain rfl : n = m := by omega); by_cases h3 : n < 3
  · (obtain ⟨q, hq⟩ := Int.eq_ofNat_of_zero_le (show 0 ≤ n + 1 by omega)); (refine Ev.step (f := fun k => (talikref03_Keeps.f k H S b (q : Int)).bind fun t598 => (if t598 = true then (talikref03_Bears.l0 k b (q : Int) H S) else (some n))) (fun k => ?_) (Ev.bind (Keeps_ev hv hb hi q (by omega)) ?_))
    · simp only [talikref03_Bears.l0]; rw [if_pos h3, wrap64_of _ (by omega) (by omega), hq]
    · have : (brk H S q (maskN b)).isSome = true := by
       cases hx : (brk H S q (maskN b)).isSome with
       | true => rfl
       | false => have := (hm q (by omega)).1 hx; omega
      rw [this]; simpa using Ev.now _
  · (refine Ev.step (f := fun _ => some n) (fun k => ?_) (Ev.now _)); simp only [talikref03_Bears.l0]; rw [if_neg h3]
 | succ d ih =>
  intro n hn hd; (obtain ⟨q, hq⟩ := Int.eq_ofNat_of_zero_le (show 0 ≤ n + 1 by omega)); (refine Ev.step (f := fun k => (talikref03_Keeps.f k H S b (q : Int)).bind fun t598 => (if t598 = true then (talikref03_Bears.l0 k b (q : Int) H S) else (some n))) (fun k => ?_) (Ev.bind (Keeps_ev hv hb hi q (by omega)) ?_))
  · simp only [talikref03_Bears.l0]; rw [if_pos (by omega), wrap64_of _ (by omega) (by omega), hq]
  · (rw [(hm q (by omega)).2 (by omega)]); (have := ih (q : Int) (by omega) (by omega)); simpa using this
theorem bears_two {H : List S60} {S : List S64} (hv : validB H S = true) {b : List Int} (hi : incr S.length (-1) b = true) : ∃ m : Int, -1 ≤ m ∧ m ≤ 3 ∧ (∀ f : Nat, f ≤ 3 → ((brk H S f (maskN b)).isSome = false ↔ (f : Int) ≤ m)) ∧ bearsG H S (maskN b) 4 = if m < 0 then (0, 5) else (m, 0) := by
 have hmlt := incr_mask (m := S.length) hi; (rcases bearsG_spec H S (maskN b) 4 with ⟨h1, h2⟩ | ⟨m, h1, h2, h3, h4⟩)
 · (refine ⟨-1, by omega, by omega, fun f hf3 => ?_, by rw [h1]; rfl⟩); (rw [h2 f (by omega)]; constructor <;> intro h <;> (first | cases h | omega))
 · (refine ⟨(m : Int), by omega, by omega, fun f hf3 => ?_, by rw [h2, if_neg (by omega)]⟩); constructor
   · intro h; (rcases Nat.lt_or_ge m f with h5 | h5)
     · rw [h4 f h5 (by omega)] at h; cases h
     · omega
   · intro h; (rw [brk_mono hv hmlt h3 (show f ≤ m by omega)]; rfl)
theorem Bears_ev {H : List S60} {S : List S64} (hv : validB H S = true) {b : List Int} (hb : b.length ≤ 15) (hi : incr S.length (-1) b = true) (m : Int) (hm1 : -1 ≤ m) (hm3 : m ≤ 3) (hm : ∀ f : Nat, f ≤ 3 → ((brk H S f (maskN b)).isSome = false ↔ (f : Int) ≤ m)) : Ev (fun k => talikref03_Bears.f k H S b) m := by
 exact bears_l0 hv hb hi m hm1 hm3 hm (m + 1).toNat (-1) (by omega) (by omega)
end Go.Proofs.Ytmkdllaagaimlaa.C
end
section
namespace Go.Proofs.Ytmkdllaagaimlaa.C
open Go.RowKit Go.Proofs.YtmkdllaagaimlaaW.PrintWords Go.Proofs.YtmkdllaagaimlaaW.PrintLast Go.Proofs.YtmkdllaagaimlaaW.PrintMore
set_option linter.unusedVariables false
set_option linter.unusedSimpArgs false
theorem Fails_v (n : Int) : talikref03_Fails.f n = some (decide (0 ≤ n) && decide (n ≤ 3)) := by
 obtain ⟨K, h⟩ := Fails_ev n; exact h K (Nat.le_refl _)
theorem CoolKeeps_pure (H : List S60) (S : List S64) (b : List Int) (a : Int) (hH : H.length ≤ 9223372036854775807) (hS : S.length ≤ 9223372036854775807) (hG : ∀ s ∈ S, s.f2.length ≤ 9223372036854775807) (hb : b.length ≤ 9223372036854775807) (_ : (Lit.int .i64 a).wf = true) : Ev (fun k => taliklaw03_CoolKeeps.f k H S b a) true := by
  have hj1 : Ev (fun k => taliklaw03_CoolKeeps.j0 k b a true H S) true :=
    Ev.step (f := fun k => (taliklaw03_known.f k).bind fun t => some t) (fun k => by simp only [taliklaw03_CoolKeeps.j0]; rw [if_pos trivial]) known_ev'
  unfold taliklaw03_CoolKeeps.f
  refine Ev.bind (short_ev H S hS) ?_
  cases hsh : shortB H S with
  | false => simpa using hj1
  | true =>
    simp only [if_true]
    by_cases hb8 : 8 < b.length
    · refine Ev.congr (fun k => ?_) hj1; rw [decide_eq_true (by omega)]
    · refine Ev.congr (f := fun k => taliklaw03_CoolKeeps.j0 k b a false H S) (fun k => by rw [decide_eq_false (by omega)]) ?_
      -- what package cool tells, and the rest behind the test of the error
      have hj : Ev (fun k => taliklaw03_CoolKeeps.j1 k b a (keepsV H S b a).1 (keepsV H S b a).2 (breakV H S b a).1 (breakV H S b a).2.1 (breakV H S b a).2.2 (bearsV H S b).1 (bearsV H S b).2 false H S) true := by
        cases ha : askedB H S b with
        | false =>
          have hgo : ∀ fine, givenO H S b fine = none := by
            intro fine
            unfold askedB at ha
            unfold givenO
            cases hv : validB H S with
            | false => simp
            | true => rw [hv] at ha; simp only [Bool.true_and] at ha; rw [ha]; cases fine <;> rfl
          have hk : keepsV H S b a = (false, 2) := by unfold keepsV; rw [hgo]
          have hbr : breakV H S b a = (0, [], 2) := by unfold breakV; rw [hgo]
          have hbe : bearsV H S b = (0, 2) := by unfold bearsV; rw [hgo]
          rw [hk, hbr, hbe]
          refine Ev.step (fun k => by simp only [taliklaw03_CoolKeeps.j1]; exact rfl) ?_
          simp only [Bool.false_eq_true, if_false]
          refine Ev.bind (asked_ev H S b hH hS hG hb) ?_
          rw [ha]; simpa using known_ev'
        | true =>
          have ha' := ha
          unfold askedB at ha'
          rw [Bool.and_eq_true] at ha'
          obtain ⟨hv, hi⟩ := ha'
          obtain ⟨m, hm1, hm3, hm, hbg⟩ := bears_two hv hi
          have hgo : ∀ fine, givenO H S b fine = if fine then some (maskN b) else none := by
            intro fine; unfold givenO; rw [hv, hi]; cases fine <;> rfl
          have hbe : bearsV H S b = if m < 0 then (0, 5) else (m, 0) := by unfold bearsV; rw [hgo, if_pos rfl]; exact hbg
          have hj2 : Ev (fun k => taliklaw03_CoolKeeps.j2 k b a (keepsV H S b a).1 (keepsV H S b a).2 (breakV H S b a).1 (breakV H S b a).2.1 (breakV H S b a).2.2 false H S) true := by
            cases hf : (decide (0 ≤ a) && decide (a ≤ 3)) with
            | false =>
              have hk : keepsV H S b a = (false, 2) := by unfold keepsV; rw [hgo, hf]; rfl
              have hbr : breakV H S b a = (0, [], 2) := by unfold breakV; rw [hgo, hf]; rfl
              rw [hk, hbr]
              refine Ev.step (f := fun k => (taliklaw03_known.f k).bind fun t => some t) (fun k => ?_) known_ev'
              simp only [taliklaw03_CoolKeeps.j2]
              rw [if_neg (by simp), Fails_v, hf]
              simp
            | true =>
              rw [Bool.and_eq_true, decide_eq_true_eq, decide_eq_true_eq] at hf
              obtain ⟨q, rfl⟩ := Int.eq_ofNat_of_zero_le hf.1
              have hf' : (decide (0 ≤ ((q : Nat) : Int)) && decide (((q : Nat) : Int) ≤ 3)) = true := by rw [Bool.and_eq_true, decide_eq_true_eq, decide_eq_true_eq]; exact hf
              have hB := Break_ev' hv (by omega) hi q (by omega)
              cases hk : brk H S q (maskN b) with
              | none =>
                rw [hk] at hB
                have e1 : keepsV H S b q = (true, 0) := by unfold keepsV; rw [hgo, hf']; simp [hk]
                have e2 : breakV H S b q = (0, [], 6) := by unfold breakV; rw [hgo, hf']; simp [hk]
                rw [e1, e2]
                refine Ev.step (f := fun k => (talikref03_Break.f k H S b q).bind fun bt618 => (if bt618.1 < 0 then ((taliklaw03_known.f k).bind fun t622 => (some t622)) else some false)) (fun k => ?_) (Ev.bind hB (by simpa using known_ev'))
                simp only [taliklaw03_CoolKeeps.j2]
                rw [if_neg (by simp), Fails_v, hf']
                simp
              | some h =>
                rw [hk] at hB
                have e1 : keepsV H S b q = (false, 0) := by unfold keepsV; rw [hgo, hf']; simp [hk]
                have e2 : breakV H S b q = ((h : Int), breakL H S (maskN b) h q, 0) := by unfold breakV; rw [hgo, hf']; simp [hk]
                rw [e1, e2]
                have hml := memI_small ((((List.range (q + 1)).flatMap fun m => combosM (memI (maskN b)) m 0).find? fun c => !levelB H S h 0 (clrM (maskN b) c)).getD 0)
                have hS2 := Same_ev (breakL H S (maskN b) h q) (breakL H S (maskN b) h q) (by unfold breakL; omega)
                rw [decide_eq_true rfl] at hS2
                refine Ev.step (f := fun k => (talikref03_Break.f k H S b q).bind fun bt618 => (if bt618.1 < 0 then some false else (if (h : Int) = bt618.1 then ((talikref03_Same.f k (breakL H S (maskN b) h q) bt618.2).bind fun t623 => (if t623 = true then ((taliklaw03_known.f k).bind fun t624 => (some t624)) else (some false))) else (some false)))) (fun k => ?_) (Ev.bind hB ?_)
                · simp only [taliklaw03_CoolKeeps.j2]
                  rw [if_neg (by simp), Fails_v, hf']
                  simp
                · have hneg : ¬ (h : Int) < 0 := by omega
                  simp only [hneg, if_false, if_true]
                  exact Ev.bind hS2 (by simpa using known_ev')
          rw [hbe]
          refine Ev.step (fun k => by simp only [taliklaw03_CoolKeeps.j1]; exact rfl) ?_
          simp only [Bool.false_eq_true, if_false]
          refine Ev.bind (asked_ev H S b hH hS hG hb) ?_
          rw [ha]
          simp only [if_true]
          refine Ev.bind (Bears_ev hv (by omega) hi m hm1 hm3 hm) ?_
          by_cases hm0 : m < 0
          · have hm0' : ¬ m ≥ 0 := by omega
            simpa [hm0, hm0'] using hj2
          · have hm0' : m ≥ 0 := by omega
            simpa [hm0, hm0'] using hj2
      refine Ev.step (fun k => by simp only [taliklaw03_CoolKeeps.j0]; exact rfl) ?_
      simp only [Bool.false_eq_true, if_false, cool_Check.f, cool_Keeps.f, cool_Break.f, cool_Bears.f, Option.bind_some]
      refine Ev.bind (Town_ev H S hH hS hG) ?_
      cases hv : validB H S with
      | true => simpa using hj
      | false => simpa using hj
end Go.Proofs.Ytmkdllaagaimlaa.C
end
section
namespace Go.Proofs.Ytmkdllaagaimlaa.C
open Go.ChangeShapes Go.WideShapes Go.Deep Go.RowKit Go.Proofs.YtmkdllaagaimlaaW.PrintWords Go.Proofs.YtmkdllaagaimlaaW.PrintLast Go.Proofs.YtmkdllaagaimlaaW.PrintMore
set_option linter.unusedVariables false
set_option linter.unusedSimpArgs false
structure Opens (P : Program) (t : TypeId) {α : Type} (d : Kd α) (Q : α → Prop) : Prop where
  size : P.cellsOf t = d.sz
  reads : ∀ {H : Type} (enc : TypeId × Value → H) (w : World) (base : Nat) (spare : Nat → Bool) (held : Bool) (fuel : Nat) (cs : List Value) (x : DataW H × List MemPlace), DataW.trod enc P w base spare held fuel t cs = some x → ∃ y, d.K w y cs ∧ Q y
theorem opens_int {P : Program} {t : TypeId} {k : IntKind} (ht : P.underlying t = some (.int k)) (hc : P.cellsOf t = 1) : Opens P t (Kd.int k) (fun n => (Lit.int k n).wf = true) := ⟨hc, fun enc w base spare held fuel cs x h => by
  obtain ⟨n, rfl, _, hw⟩ := DataW.trod_int ht h
  exact ⟨n, rfl, hw⟩⟩
theorem opens_slice {P : Program} {t e : TypeId} {α : Type} {d : Kd α} {Q : α → Prop} (ht : P.underlying t = some (.slice e)) (hc : P.cellsOf t = 1) (he : Opens P e d Q) : Opens P t (Kd.slice e d) (fun xs => (∀ x ∈ xs, Q x) ∧ xs.length ≤ 9223372036854775807) := ⟨hc, fun enc w base spare held fuel cs x h => by
  rcases open_slice ht h with ⟨rfl, _⟩ | ⟨a, len, cap, m, n, D, Pl, rfl, hb, hl, hm, hmm, _, hel⟩
  · exact ⟨[], ⟨none, 0, rfl, Nat.le_refl _, rfl, by simp, fun h => by simp at h⟩, (fun x hx => by cases hx), by simp⟩
  · have hlm : len ≤ m := by rw [hmm]; split <;> omega
    have key : ∀ j : Nat, j ≤ len → ∃ xs : List α, xs.length = j ∧ (∀ x ∈ xs, Q x) ∧ ∀ i p, xs[i]? = some p → ∃ c, c.length = d.sz ∧ d.K w p c ∧ ∀ q u, c[q]? = some u → w.cell? (a.add (i * d.sz + q)) = some u := by
      intro j
      induction j with
      | zero => intro _; exact ⟨[], rfl, (fun x hx => by cases hx), fun i p h => by simp at h⟩
      | succ j ih =>
        intro hj
        obtain ⟨xs, h1, h2, h3⟩ := ih (by omega)
        obtain ⟨cs', hcs, htr⟩ := hel j (by omega)
        obtain ⟨_, hlen, hcell⟩ := World.cells?_some hcs
        obtain ⟨y, hy, hq⟩ := he.reads _ _ _ _ _ _ _ _ htr
        refine ⟨xs ++ [y], by simp [h1], fun x hx => ?_, fun i p hp => ?_⟩
        · rcases List.mem_append.1 hx with hx | hx
          · exact h2 x hx
          · rw [List.mem_singleton.1 hx]; exact hq
        · rcases Nat.lt_or_ge i xs.length with hi | hi
          · rw [List.getElem?_append_left hi] at hp
            exact h3 i p hp
          · rw [List.getElem?_append_right hi] at hp
            have hi2 : i - xs.length = 0 := by
              rcases Nat.eq_zero_or_pos (i - xs.length) with h | h
              · exact h
              · rw [List.getElem?_eq_none (by simp; omega)] at hp; cases hp
            rw [hi2] at hp
            simp only [List.getElem?_cons_zero, Option.some.injEq] at hp
            subst hp
            have hij : i = j := by omega
            subst hij
            refine ⟨cs', d.K_len hy, hy, fun q u hu => ?_⟩
            have hql : q < cs'.length := (List.getElem?_eq_some_iff.1 hu).1
            have h := hcell q (by omega)
            rw [hu] at h
            rw [← h, he.size]
            congr 1
            simp only [Addr.add]
            by_cases e1 : i * d.sz = 0 <;> by_cases e2 : q = 0 <;> simp [e1, e2, Nat.add_assoc]
    obtain ⟨xs, h1, h2, h3⟩ := key len (Nat.le_refl _)
    have hmx : cap ≤ 9223372036854775807 := by unfold maxLen at hm; exact hm
    subst h1
    exact ⟨xs, ⟨some a, cap, rfl, hl, rfl, by omega, fun _ => ⟨a, rfl, h3⟩⟩, h2, by omega⟩⟩
theorem opens_pair {P : Program} {t : TypeId} {f0 f1 : Field} {α β : Type} {d0 : Kd α} {d1 : Kd β} {Q0 : α → Prop} {Q1 : β → Prop} (ht : P.underlying t = some (.struct #[f0, f1])) (hc : P.cellsOf t = d0.sz + d1.sz) (h0 : Opens P f0.type d0 Q0) (h1 : Opens P f1.type d1 Q1) (o0 : f0.offset = 0) (o1 : f1.offset = d0.sz) :
    Opens P t (Kd.pair d0 d1) (fun x => Q0 x.1 ∧ Q1 x.2) := ⟨hc, fun enc w base spare held fuel cs x h => by
  obtain ⟨y0, y1, n, _, hl, t0, t1⟩ := trod_struct2 ht h
  obtain ⟨a, ha, qa⟩ := h0.reads _ _ _ _ _ _ _ _ t0
  obtain ⟨b, hb, qb⟩ := h1.reads _ _ _ _ _ _ _ _ t1
  rw [o0, h0.size, List.drop_zero] at ha
  rw [o1, h1.size, List.take_of_length_le (by simp; omega)] at hb
  exact ⟨(a, b), ⟨_, _, (List.take_append_drop _ _).symm, ha, hb⟩, qa, qb⟩⟩
theorem opens_triple {P : Program} {t : TypeId} {f0 f1 f2 : Field} {α β γ : Type} {d0 : Kd α} {d1 : Kd β} {d2 : Kd γ} {Q0 : α → Prop} {Q1 : β → Prop} {Q2 : γ → Prop} (ht : P.underlying t = some (.struct #[f0, f1, f2])) (hc : P.cellsOf t = d0.sz + (d1.sz + d2.sz)) (h0 : Opens P f0.type d0 Q0) (h1 : Opens P f1.type d1 Q1) (h2 : Opens P f2.type d2 Q2) (o0 : f0.offset = 0) (o1 : f1.offset = d0.sz) (o2 : f2.offset = d0.sz + d1.sz) :
    Opens P t (Kd.pair d0 (Kd.pair d1 d2)) (fun x => Q0 x.1 ∧ Q1 x.2.1 ∧ Q2 x.2.2) := ⟨hc, fun enc w base spare held fuel cs x h => by
  obtain ⟨y0, y1, y2, n, _, hl, t0, t1, t2⟩ := trod_struct3 ht h
  obtain ⟨a, ha, qa⟩ := h0.reads _ _ _ _ _ _ _ _ t0
  obtain ⟨b, hb, qb⟩ := h1.reads _ _ _ _ _ _ _ _ t1
  obtain ⟨c, hcc, qc⟩ := h2.reads _ _ _ _ _ _ _ _ t2
  rw [o0, h0.size, List.drop_zero] at ha
  rw [o1, h1.size] at hb
  rw [o2, h2.size, List.take_of_length_le (by simp; omega)] at hcc
  refine ⟨(a, b, c), ⟨_, _, (List.take_append_drop d0.sz cs).symm, ha, _, _, (List.take_append_drop d1.sz _).symm, hb, ?_⟩, qa, qb, qc⟩
  rwa [List.drop_drop]⟩
theorem opens_iso {P : Program} {t : TypeId} {α β : Type} {d : Kd α} {Q : α → Prop} (h : Opens P t d Q) (f : β → α) (g : α → β) (hfg : ∀ x, f (g x) = x) : Opens P t (Kd.iso d f) (fun y => Q (f y)) := ⟨h.size, fun enc w base spare held fuel cs x hx => by
  obtain ⟨y, hy, hq⟩ := h.reads enc w base spare held fuel cs x hx
  exact ⟨g y, by show d.K w (f (g y)) cs; rw [hfg]; exact hy, by rw [hfg]; exact hq⟩⟩
theorem Opens.imp {P : Program} {t : TypeId} {α : Type} {d : Kd α} {Q Q' : α → Prop} (h : Opens P t d Q) (hq : ∀ x, Q x → Q' x) : Opens P t d Q' := ⟨h.size, fun enc w base spare held fuel cs x hx => by
  obtain ⟨y, hy, hq'⟩ := h.reads enc w base spare held fuel cs x hx
  exact ⟨y, hy, hq y hq'⟩⟩
theorem op3 : Opens Try.prog 3 (Kd.int .i64) (fun n => (Lit.int .i64 n).wf = true) := opens_int (by kernel_rfl) (by kernel_rfl)
theorem op28 : Opens Try.prog 28 (Kd.slice 3 (Kd.int .i64)) (fun xs => (∀ x ∈ xs, (Lit.int .i64 x).wf = true) ∧ xs.length ≤ 9223372036854775807) := opens_slice (by kernel_rfl) (by kernel_rfl) op3
theorem op58 : Opens Try.prog 58 k58 (fun _ => True) := (opens_iso (opens_pair Try.underlying58 (by kernel_rfl) op3 op3 rfl rfl) (fun x : S58 => (x.f0, x.f1)) (fun x => ⟨x.1, x.2⟩) (fun _ => rfl)).imp fun _ _ => trivial
theorem op62 : Opens Try.prog 62 (Kd.slice 58 k58) (fun xs => xs.length ≤ 9223372036854775807) := (opens_slice (by kernel_rfl) (by kernel_rfl) op58).imp fun _ h => h.2
theorem op64 : Opens Try.prog 64 k64 (fun s => s.f2.length ≤ 9223372036854775807) := (opens_iso (opens_triple Try.underlying64 (by kernel_rfl) op3 op3 op62 rfl rfl rfl) (fun x : S64 => (x.f0, x.f1, x.f2)) (fun x => ⟨x.1, x.2.1, x.2.2⟩) (fun _ => rfl)).imp fun _ h => h.2.2
theorem op60 : Opens Try.prog 60 k60 (fun _ => True) := (opens_iso (opens_pair Try.underlying60 (by kernel_rfl) op58 op3 rfl rfl) (fun x : S60 => (x.f0, x.f1)) (fun x => ⟨x.1, x.2⟩) (fun _ => rfl)).imp fun _ _ => trivial
theorem op22 : Opens Try.prog 22 (Kd.slice 60 k60) (fun xs => xs.length ≤ 9223372036854775807) := (opens_slice Try.underlying22 (by kernel_rfl) op60).imp fun _ h => h.2
theorem op23 : Opens Try.prog 23 (Kd.slice 64 k64) (fun xs => (∀ s ∈ xs, s.f2.length ≤ 9223372036854775807) ∧ xs.length ≤ 9223372036854775807) := opens_slice Try.underlying23 (by kernel_rfl) op64
theorem op25 : Opens Try.prog 25 (Kd.pair (Kd.slice 60 k60) (Kd.slice 64 k64)) (fun x => x.1.length ≤ 9223372036854775807 ∧ (∀ s ∈ x.2, s.f2.length ≤ 9223372036854775807) ∧ x.2.length ≤ 9223372036854775807) := opens_pair Try.underlying25 (by kernel_rfl) op22 op23 rfl rfl
set_option maxRecDepth 100000 in
theorem open_town {H : Type} {enc : TypeId × Value → H} {W : World} {base b0 : Nat} {spare : Nat → Bool} {held : Bool} {r : Reach} {v : Value} {d : DataW H} {p : List MemPlace} (hv : Value.okWide Try.prog W r b0 25 v) (h : DataW.Trod enc Try.prog W base spare held 25 v d p) :
    ∃ (A0 : Option Addr) (c0 : Nat) (Hs : List S60) (A1 : Option Addr) (c1 : Nat) (Ss : List S64), v = .agg #[.slice A0 Hs.length c0, .slice A1 Ss.length c1] ∧ Kd.C k60 W A0 Hs.length Hs ∧ Hs.length ≤ c0 ∧ Kd.C k64 W A1 Ss.length Ss ∧ Ss.length ≤ c1 ∧ Hs.length ≤ 9223372036854775807 ∧ Ss.length ≤ 9223372036854775807 ∧ ∀ s ∈ Ss, s.f2.length ≤ 9223372036854775807 := by
 obtain ⟨cs, rfl, _⟩ := okWide_struct Try.underlying25 hv; obtain ⟨fuel, hf⟩ := h; obtain ⟨⟨Hs, Ss⟩, ⟨c0', c1', e, ⟨A0, c0, rfl, l0, g0⟩, ⟨A1, c1, rfl, l1, g1⟩⟩, q0, q1, q2⟩ := op25.reads _ _ _ _ _ _ _ _ hf; refine ⟨A0, c0, Hs, A1, c1, Ss, ?_, g0, l0, g1, l1, q0, q2, q1⟩; have e' : cs.toList = [.slice A0 Hs.length c0, .slice A1 Ss.length c1] := e
 have : cs = #[.slice A0 Hs.length c0, .slice A1 Ss.length c1] := by
  apply Array.toList_inj.1; rw [e']
 rw [this]
set_option maxRecDepth 100000 in
theorem open_list {H : Type} {enc : TypeId × Value → H} {W : World} {base b0 : Nat} {spare : Nat → Bool} {held : Bool} {r : Reach} {v : Value} {d : DataW H} {p : List MemPlace} (hv : Value.okWide Try.prog W r b0 28 v) (h : DataW.Trod enc Try.prog W base spare held 28 v d p) :
    ∃ (A : Option Addr) (c : Nat) (l : List Int), v = .slice A l.length c ∧ Kd.C (Kd.int .i64) W A l.length l ∧ l.length ≤ c ∧ l.length ≤ 9223372036854775807 ∧ ∀ x ∈ l, (Lit.int .i64 x).wf = true := by
 (obtain ⟨a, len, cap, rfl⟩ := okWide_slice (by kernel_rfl : Try.prog.underlying 28 = some (.slice 3)) hv); obtain ⟨fuel, hf⟩ := h; obtain ⟨l, ⟨A, c, e, hl, g⟩, q0, q1⟩ := op28.reads _ _ _ _ _ _ _ _ hf; have e' : [Value.slice a len cap] = [.slice A l.length c] := e; simp only [List.cons.injEq, Value.slice.injEq, and_true] at e'; obtain ⟨rfl, rfl, rfl⟩ := e'; exact ⟨_, _, l, rfl, g, hl, q1, q0⟩
end Go.Proofs.Ytmkdllaagaimlaa.C
end
section
namespace Go.Proofs.Ytmkdllaagaimlaa.coolKeeps
open Go.ChangeShapes Go.WideShapes Go.ChangeAt Go.RowKit Go.Proofs.Ytmkdllaagaimlaa.C Go.Proofs.YtmkdllaagaimlaaW.PrintWords
set_option linter.unusedVariables false
theorem own : ownKnob Try.prog.godebug = none := by kernel_rfl
theorem laidOut : laidOutB Try.prog = true := by kernel_rfl
set_option maxRecDepth 100000 in
theorem lifted (os : Os) (started : os.Started) (H : Type) (enc : TypeId × Value → H) :
    ReturnsInHanded {} Try.checked os 9 .any (Rows.coolKeepsSpec.pre6 enc Try.prog Try.f9 Rows.coolKeepsRow.domain false) (Rows.coolKeepsSpec.post enc Try.prog Try.f9 false true false false) := by
 refine returnsInHanded_of_change_sized (C := Try.checked) own started (by kernel_rfl) Try.func9
  (ChangeSpec.witness6 (enc := enc) (C := Try.checked) false ⟨#[], #[.agg #[.slice none 0 0, .slice none 0 0], .slice none 0 0, .int .i64 0], []⟩ 8 (by kernel_rfl) (by kernel_rfl) (by kernel_rfl) (by kernel_rfl)) ?_
 intro W base args ds gs before hval0 hW hcnd hsz0 _; have hval : ∀ (j : Nat) t v, Try.f9.params[j]? = some t → args[j]? = some v → Value.okWide Try.prog W .any base t v := hval0; have hW' := hW; obtain ⟨p, q, hA0, hV, rfl, hfz, hnd⟩ := hW; (have hA : DataW.TrodAll enc Try.prog W 0 (fun _ => true) true Try.f9.params.toList args.toList ds p := hA0); rw [Try.params9] at hA hval; obtain ⟨v0, vs0, d0, ds0, p0, q0, hargs, rfl, rfl, h0, r0⟩ := trodAll_cons hA; obtain ⟨v1, vs1, d1, ds1, p1, q1, rfl, rfl, rfl, h1, r1⟩ := trodAll_cons r0; obtain ⟨v2, vs2, d2, ds2, p2, q2, rfl, rfl, rfl, h2, r2⟩ := trodAll_cons r1; obtain ⟨rfl, rfl, rfl⟩ := trodAll_nil r2; (obtain rfl : args = #[v0, v1, v2] := by cases args; simp_all); obtain ⟨rfl, rfl⟩ := trodVars_none hV; have k0 := h0; (have lt0 : ∀ x ∈ p0, x.block < W.heap.size := by obtain ⟨m, hm⟩ := k0; exact DataW.trod_lt m _ _ _ hm); obtain ⟨A0, c0, H0, B0, e0, S0, rfl, a0, b0, f0, g0, x0, y0, z0⟩ := open_town (hval 0 25 v0 rfl rfl) h0; have k1 := h1; (have lt1 : ∀ x ∈ p1, x.block < W.heap.size := by obtain ⟨m, hm⟩ := k1; exact DataW.trod_lt m _ _ _ hm); obtain ⟨A1, c1, l1, rfl, a1, b1, x1, y1⟩ := open_list (hval 1 28 v1 rfl rfl) h1; obtain ⟨n2, rfl, rfl, rfl, w2⟩ := open_int Try.underlying3 (hval 2 3 v2 rfl rfl) h2; clear hA0 hval0 hsz0; obtain ⟨k, hk⟩ := (CoolKeeps_pure H0 S0 l1 n2 x0 y0 z0 x1 w2).rounds; (refine (taliklaw03_CoolKeeps.calls k A0 c0 H0 B0 e0 S0 A1 c1 l1 n2 true W a0 b0 f0 g0 a1 b1  hk).mono fun e W' ⟨he, bel⟩ => ?_); subst he; (exact ⟨_, rfl, _, _, _, [], _, [], hW', trodAll_mk1 (shut_bool Try.underlying4 _), (trodAll_cons_mk (Below.trod laidOut (by kernel_rfl) (of_decide_eq_true (by kernel_rfl)) k0 bel lt0) (trodAll_cons_mk (Below.trod laidOut (by kernel_rfl) (of_decide_eq_true (by kernel_rfl)) k1 bel lt1) (trodAll_cons_mk (shut_int Try.underlying3 w2) trodAll_mk0))), rfl, bel.frame _, fun h => by cases h⟩)
theorem over : Rows.coolKeepsRow.holds Try.pinned (OpenSpec.ofChange Rows.coolKeepsSpec) :=
  OpenClaim.holds_of_wide 9 Try.f9 rfl rfl rfl rfl rfl rfl rfl ⟨rfl, rfl, rfl, rfl, rfl⟩ rfl rfl rfl rfl rfl (by kernel_rfl) Try.func9 (by kernel_rfl)
    (of_decide_eq_true (by kernel_rfl)) (by unfold Func.isWrapper; first | (rw [if_pos (by decide +kernel)]; kernel_rfl) | (rw [if_neg (by decide +kernel)]; exact ⟨rfl, rfl⟩))
    (fun os started H enc _ => lifted os started H enc)
theorem proved : Rows.CoolKeepsSaid := over
end Go.Proofs.Ytmkdllaagaimlaa.coolKeeps
namespace Go.Proofs.Ytmkdllaagaimlaa
theorem coolKeeps_holds : Rows.CoolKeepsSaid := coolKeeps.proved
#print axioms coolKeeps_holds
end Go.Proofs.Ytmkdllaagaimlaa
end
