/- CoolBroken: for every input the law returns true. -/
import Derived.Test.YtmkdllaagaimlaaRows
import Derived.Test.YtmkdllaagaimlaaTB6
import Derived.ChangeSame
import Derived.Deep.Strs
import Derived.Deep.Slices
import Derived.WalkKit
import Derived.ProofKit
import Derived.OpenShut
import Derived.ShutString
import Derived.ChangeOld
import Derived.Below
import Derived.SizedLaws
import Derived.Carry
section
namespace Go.Proofs.Ytmkdllaagaimlaa.C
open Go.ChangeShapes Go.WideShapes Go.Deep Go.RowKit Go.Proofs.YtmkdllaagaimlaaW.PrintWords Go.Proofs.YtmkdllaagaimlaaW.PrintLast Go.Proofs.YtmkdllaagaimlaaW.PrintMore
set_option linter.unusedVariables false
set_option linter.unusedSimpArgs false
structure Opens (P : Program) (t : TypeId) {α : Type} (d : Kd α) (Q : α → Prop) : Prop where
  size : P.cellsOf t = d.sz
  reads : ∀ {H : Type} (enc : TypeId × Value → H) (w : World) (base : Nat) (spare : Nat → Bool) (held : Bool) (fuel : Nat) (cs : List Value) (x : DataW H × List MemPlace), DataW.trod enc P w base spare held fuel t cs = some x → ∃ y, d.K w y cs ∧ Q y
theorem opens_int {P : Program} {t : TypeId} {k : IntKind} (ht : P.underlying t = some (.int k)) (hc : P.cellsOf t = 1) : Opens P t (Kd.int k) (fun n => (Lit.int k n).wf = true) := ⟨hc, fun enc w base spare held fuel cs x h => by
  obtain ⟨n, rfl, _, hw⟩ := DataW.trod_int ht h
  exact ⟨n, rfl, hw⟩⟩
theorem opens_slice {P : Program} {t e : TypeId} {α : Type} {d : Kd α} {Q : α → Prop} (ht : P.underlying t = some (.slice e)) (hc : P.cellsOf t = 1) (he : Opens P e d Q) : Opens P t (Kd.slice e d) (fun xs => (∀ x ∈ xs, Q x) ∧ xs.length ≤ 9223372036854775807) := ⟨hc, fun enc w base spare held fuel cs x h => by
  rcases open_slice ht h with ⟨rfl, _⟩ | ⟨a, len, cap, m, n, D, Pl, rfl, hb, hl, hm, hmm, _, hel⟩
  · exact ⟨[], ⟨none, 0, rfl, Nat.le_refl _, rfl, by simp, fun h => by simp at h⟩, (fun x hx => by cases hx), by simp⟩
  · have hlm : len ≤ m := by rw [hmm]; split <;> omega
    have key : ∀ j : Nat, j ≤ len → ∃ xs : List α, xs.length = j ∧ (∀ x ∈ xs, Q x) ∧ ∀ i p, xs[i]? = some p → ∃ c, c.length = d.sz ∧ d.K w p c ∧ ∀ q u, c[q]? = some u → w.cell? (a.add (i * d.sz + q)) = some u := by
      intro j
      induction j with
      | zero => intro _; exact ⟨[], rfl, (fun x hx => by cases hx), fun i p h => by simp at h⟩
      | succ j ih =>
        intro hj
        obtain ⟨xs, h1, h2, h3⟩ := ih (by omega)
        obtain ⟨cs', hcs, htr⟩ := hel j (by omega)
        obtain ⟨_, hlen, hcell⟩ := World.cells?_some hcs
        obtain ⟨y, hy, hq⟩ := he.reads _ _ _ _ _ _ _ _ htr
        refine ⟨xs ++ [y], by simp [h1], fun x hx => ?_, fun i p hp => ?_⟩
        · rcases List.mem_append.1 hx with hx | hx
          · exact h2 x hx
          · rw [List.mem_singleton.1 hx]; exact hq
        · rcases Nat.lt_or_ge i xs.length with hi | hi
          · rw [List.getElem?_append_left hi] at hp
            exact h3 i p hp
          · rw [List.getElem?_append_right hi] at hp
            have hi2 : i - xs.length = 0 := by
              rcases Nat.eq_zero_or_pos (i - xs.length) with h | h
              · exact h
              · rw [List.getElem?_eq_none (by simp; omega)] at hp; cases hp
            rw [hi2] at hp
            simp only [List.getElem?_cons_zero, Option.some.injEq] at hp
            subst hp
            have hij : i = j := by omega
            subst hij
            refine ⟨cs', d.K_len hy, hy, fun q u hu => ?_⟩
            have hql : q < cs'.length := (List.getElem?_eq_some_iff.1 hu).1
            have h := hcell q (by omega)
            rw [hu] at h
            rw [← h, he.size]
            congr 1
            simp only [Addr.add]
            by_cases e1 : i * d.sz = 0 <;> by_cases e2 : q = 0 <;> simp [e1, e2, Nat.add_assoc]
    obtain ⟨xs, h1, h2, h3⟩ := key len (Nat.le_refl _)
    have hmx : cap ≤ 9223372036854775807 := by unfold maxLen at hm; exact hm
    subst h1
    exact ⟨xs, ⟨some a, cap, rfl, hl, rfl, by omega, fun _ => ⟨a, rfl, h3⟩⟩, h2, by omega⟩⟩
theorem opens_pair {P : Program} {t : TypeId} {f0 f1 : Field} {α β : Type} {d0 : Kd α} {d1 : Kd β} {Q0 : α → Prop} {Q1 : β → Prop} (ht : P.underlying t = some (.struct #[f0, f1])) (hc : P.cellsOf t = d0.sz + d1.sz) (h0 : Opens P f0.type d0 Q0) (h1 : Opens P f1.type d1 Q1) (o0 : f0.offset = 0) (o1 : f1.offset = d0.sz) :
    Opens P t (Kd.pair d0 d1) (fun x => Q0 x.1 ∧ Q1 x.2) := ⟨hc, fun enc w base spare held fuel cs x h => by
  obtain ⟨y0, y1, n, _, hl, t0, t1⟩ := trod_struct2 ht h
  obtain ⟨a, ha, qa⟩ := h0.reads _ _ _ _ _ _ _ _ t0
  obtain ⟨b, hb, qb⟩ := h1.reads _ _ _ _ _ _ _ _ t1
  rw [o0, h0.size, List.drop_zero] at ha
  rw [o1, h1.size, List.take_of_length_le (by simp; omega)] at hb
  exact ⟨(a, b), ⟨_, _, (List.take_append_drop _ _).symm, ha, hb⟩, qa, qb⟩⟩
theorem opens_triple {P : Program} {t : TypeId} {f0 f1 f2 : Field} {α β γ : Type} {d0 : Kd α} {d1 : Kd β} {d2 : Kd γ} {Q0 : α → Prop} {Q1 : β → Prop} {Q2 : γ → Prop} (ht : P.underlying t = some (.struct #[f0, f1, f2])) (hc : P.cellsOf t = d0.sz + (d1.sz + d2.sz)) (h0 : Opens P f0.type d0 Q0) (h1 : Opens P f1.type d1 Q1) (h2 : Opens P f2.type d2 Q2) (o0 : f0.offset = 0) (o1 : f1.offset = d0.sz) (o2 : f2.offset = d0.sz + d1.sz) :
    Opens P t (Kd.pair d0 (Kd.pair d1 d2)) (fun x => Q0 x.1 ∧ Q1 x.2.1 ∧ Q2 x.2.2) := ⟨hc, fun enc w base spare held fuel cs x h => by
  obtain ⟨y0, y1, y2, n, _, hl, t0, t1, t2⟩ := trod_struct3 ht h
  obtain ⟨a, ha, qa⟩ := h0.reads _ _ _ _ _ _ _ _ t0
  obtain ⟨b, hb, qb⟩ := h1.reads _ _ _ _ _ _ _ _ t1
  obtain ⟨c, hcc, qc⟩ := h2.reads _ _ _ _ _ _ _ _ t2
  rw [o0, h0.size, List.drop_zero] at ha
  rw [o1, h1.size] at hb
  rw [o2, h2.size, List.take_of_length_le (by simp; omega)] at hcc
  refine ⟨(a, b, c), ⟨_, _, (List.take_append_drop d0.sz cs).symm, ha, _, _, (List.take_append_drop d1.sz _).symm, hb, ?_⟩, qa, qb, qc⟩
  rwa [List.drop_drop]⟩
theorem opens_iso {P : Program} {t : TypeId} {α β : Type} {d : Kd α} {Q : α → Prop} (h : Opens P t d Q) (f : β → α) (g : α → β) (hfg : ∀ x, f (g x) = x) : Opens P t (Kd.iso d f) (fun y => Q (f y)) := ⟨h.size, fun enc w base spare held fuel cs x hx => by
  obtain ⟨y, hy, hq⟩ := h.reads enc w base spare held fuel cs x hx
  exact ⟨g y, by show d.K w (f (g y)) cs; rw [hfg]; exact hy, by rw [hfg]; exact hq⟩⟩
theorem Opens.imp {P : Program} {t : TypeId} {α : Type} {d : Kd α} {Q Q' : α → Prop} (h : Opens P t d Q) (hq : ∀ x, Q x → Q' x) : Opens P t d Q' := ⟨h.size, fun enc w base spare held fuel cs x hx => by
  obtain ⟨y, hy, hq'⟩ := h.reads enc w base spare held fuel cs x hx
  exact ⟨y, hy, hq y hq'⟩⟩
theorem op3 : Opens Try.prog 3 (Kd.int .i64) (fun n => (Lit.int .i64 n).wf = true) := opens_int (by kernel_rfl) (by kernel_rfl)
theorem op28 : Opens Try.prog 28 (Kd.slice 3 (Kd.int .i64)) (fun xs => (∀ x ∈ xs, (Lit.int .i64 x).wf = true) ∧ xs.length ≤ 9223372036854775807) := opens_slice (by kernel_rfl) (by kernel_rfl) op3
theorem op58 : Opens Try.prog 58 k58 (fun _ => True) := (opens_iso (opens_pair Try.underlying58 (by kernel_rfl) op3 op3 rfl rfl) (fun x : S58 => (x.f0, x.f1)) (fun x => ⟨x.1, x.2⟩) (fun _ => rfl)).imp fun _ _ => trivial
theorem op62 : Opens Try.prog 62 (Kd.slice 58 k58) (fun xs => xs.length ≤ 9223372036854775807) := (opens_slice (by kernel_rfl) (by kernel_rfl) op58).imp fun _ h => h.2
theorem op64 : Opens Try.prog 64 k64 (fun s => s.f2.length ≤ 9223372036854775807) := (opens_iso (opens_triple Try.underlying64 (by kernel_rfl) op3 op3 op62 rfl rfl rfl) (fun x : S64 => (x.f0, x.f1, x.f2)) (fun x => ⟨x.1, x.2.1, x.2.2⟩) (fun _ => rfl)).imp fun _ h => h.2.2
theorem op60 : Opens Try.prog 60 k60 (fun _ => True) := (opens_iso (opens_pair Try.underlying60 (by kernel_rfl) op58 op3 rfl rfl) (fun x : S60 => (x.f0, x.f1)) (fun x => ⟨x.1, x.2⟩) (fun _ => rfl)).imp fun _ _ => trivial
theorem op22 : Opens Try.prog 22 (Kd.slice 60 k60) (fun xs => xs.length ≤ 9223372036854775807) := (opens_slice Try.underlying22 (by kernel_rfl) op60).imp fun _ h => h.2
theorem op23 : Opens Try.prog 23 (Kd.slice 64 k64) (fun xs => (∀ s ∈ xs, s.f2.length ≤ 9223372036854775807) ∧ xs.length ≤ 9223372036854775807) := opens_slice Try.underlying23 (by kernel_rfl) op64
theorem op25 : Opens Try.prog 25 (Kd.pair (Kd.slice 60 k60) (Kd.slice 64 k64)) (fun x => x.1.length ≤ 9223372036854775807 ∧ (∀ s ∈ x.2, s.f2.length ≤ 9223372036854775807) ∧ x.2.length ≤ 9223372036854775807) := opens_pair Try.underlying25 (by kernel_rfl) op22 op23 rfl rfl
set_option maxRecDepth 100000 in
theorem open_town {H : Type} {enc : TypeId × Value → H} {W : World} {base b0 : Nat} {spare : Nat → Bool} {held : Bool} {r : Reach} {v : Value} {d : DataW H} {p : List MemPlace} (hv : Value.okWide Try.prog W r b0 25 v) (h : DataW.Trod enc Try.prog W base spare held 25 v d p) :
    ∃ (A0 : Option Addr) (c0 : Nat) (Hs : List S60) (A1 : Option Addr) (c1 : Nat) (Ss : List S64), v = .agg #[.slice A0 Hs.length c0, .slice A1 Ss.length c1] ∧ Kd.C k60 W A0 Hs.length Hs ∧ Hs.length ≤ c0 ∧ Kd.C k64 W A1 Ss.length Ss ∧ Ss.length ≤ c1 ∧ Hs.length ≤ 9223372036854775807 ∧ Ss.length ≤ 9223372036854775807 ∧ ∀ s ∈ Ss, s.f2.length ≤ 9223372036854775807 := by
 obtain ⟨cs, rfl, _⟩ := okWide_struct Try.underlying25 hv; obtain ⟨fuel, hf⟩ := h; obtain ⟨⟨Hs, Ss⟩, ⟨c0', c1', e, ⟨A0, c0, rfl, l0, g0⟩, ⟨A1, c1, rfl, l1, g1⟩⟩, q0, q1, q2⟩ := op25.reads _ _ _ _ _ _ _ _ hf; refine ⟨A0, c0, Hs, A1, c1, Ss, ?_, g0, l0, g1, l1, q0, q2, q1⟩; have e' : cs.toList = [.slice A0 Hs.length c0, .slice A1 Ss.length c1] := e
 have : cs = #[.slice A0 Hs.length c0, .slice A1 Ss.length c1] := by
  apply Array.toList_inj.1; rw [e']
 rw [this]
set_option maxRecDepth 100000 in
theorem open_list {H : Type} {enc : TypeId × Value → H} {W : World} {base b0 : Nat} {spare : Nat → Bool} {held : Bool} {r : Reach} {v : Value} {d : DataW H} {p : List MemPlace} (hv : Value.okWide Try.prog W r b0 28 v) (h : DataW.Trod enc Try.prog W base spare held 28 v d p) :
    ∃ (A : Option Addr) (c : Nat) (l : List Int), v = .slice A l.length c ∧ Kd.C (Kd.int .i64) W A l.length l ∧ l.length ≤ c ∧ l.length ≤ 9223372036854775807 ∧ ∀ x ∈ l, (Lit.int .i64 x).wf = true := by
 (obtain ⟨a, len, cap, rfl⟩ := okWide_slice (by kernel_rfl : Try.prog.underlying 28 = some (.slice 3)) hv); obtain ⟨fuel, hf⟩ := h; obtain ⟨l, ⟨A, c, e, hl, g⟩, q0, q1⟩ := op28.reads _ _ _ _ _ _ _ _ hf; have e' : [Value.slice a len cap] = [.slice A l.length c] := e; simp only [List.cons.injEq, Value.slice.injEq, and_true] at e'; obtain ⟨rfl, rfl, rfl⟩ := e'; exact ⟨_, _, l, rfl, g, hl, q1, q0⟩
end Go.Proofs.Ytmkdllaagaimlaa.C
end
section
namespace Go.Proofs.Ytmkdllaagaimlaa.coolBroken
open Go.ChangeShapes Go.WideShapes Go.ChangeAt Go.RowKit Go.Proofs.Ytmkdllaagaimlaa.C Go.Proofs.YtmkdllaagaimlaaW.PrintWords
set_option linter.unusedVariables false
theorem own : ownKnob Try.prog.godebug = none := by kernel_rfl
theorem laidOut : laidOutB Try.prog = true := by kernel_rfl
set_option maxRecDepth 100000 in
theorem lifted (os : Os) (started : os.Started) (H : Type) (enc : TypeId × Value → H) :
    ReturnsInHanded {} Try.checked os 11 .any (Rows.coolBrokenSpec.pre6 enc Try.prog Try.f11 Rows.coolBrokenRow.domain false) (Rows.coolBrokenSpec.post enc Try.prog Try.f11 false true false false) := by
 refine returnsInHanded_of_change_sized (C := Try.checked) own started (by kernel_rfl) Try.func11
  (ChangeSpec.witness6 (enc := enc) (C := Try.checked) false ⟨#[], #[.agg #[.slice none 0 0, .slice none 0 0], .slice none 0 0, .int .i64 0, .slice none 0 0], []⟩ 8 (by kernel_rfl) (by kernel_rfl) (by kernel_rfl) (by kernel_rfl)) ?_
 intro W base args ds gs before hval0 hW hcnd hsz0 _; have hval : ∀ (j : Nat) t v, Try.f11.params[j]? = some t → args[j]? = some v → Value.okWide Try.prog W .any base t v := hval0; have hW' := hW; obtain ⟨p, q, hA0, hV, rfl, hfz, hnd⟩ := hW; (have hA : DataW.TrodAll enc Try.prog W 0 (fun _ => true) true Try.f11.params.toList args.toList ds p := hA0); rw [Try.params11] at hA hval; obtain ⟨v0, vs0, d0, ds0, p0, q0, hargs, rfl, rfl, h0, r0⟩ := trodAll_cons hA; obtain ⟨v1, vs1, d1, ds1, p1, q1, rfl, rfl, rfl, h1, r1⟩ := trodAll_cons r0; obtain ⟨v2, vs2, d2, ds2, p2, q2, rfl, rfl, rfl, h2, r2⟩ := trodAll_cons r1; obtain ⟨v3, vs3, d3, ds3, p3, q3, rfl, rfl, rfl, h3, r3⟩ := trodAll_cons r2; obtain ⟨rfl, rfl, rfl⟩ := trodAll_nil r3; (obtain rfl : args = #[v0, v1, v2, v3] := by cases args; simp_all); obtain ⟨rfl, rfl⟩ := trodVars_none hV; have k0 := h0; (have lt0 : ∀ x ∈ p0, x.block < W.heap.size := by obtain ⟨m, hm⟩ := k0; exact DataW.trod_lt m _ _ _ hm); obtain ⟨A0, c0, H0, B0, e0, S0, rfl, a0, b0, f0, g0, x0, y0, z0⟩ := open_town (hval 0 25 v0 rfl rfl) h0; have k1 := h1; (have lt1 : ∀ x ∈ p1, x.block < W.heap.size := by obtain ⟨m, hm⟩ := k1; exact DataW.trod_lt m _ _ _ hm); obtain ⟨A1, c1, l1, rfl, a1, b1, x1, y1⟩ := open_list (hval 1 28 v1 rfl rfl) h1; obtain ⟨n2, rfl, rfl, rfl, w2⟩ := open_int Try.underlying3 (hval 2 3 v2 rfl rfl) h2; have k3 := h3; (have lt3 : ∀ x ∈ p3, x.block < W.heap.size := by obtain ⟨m, hm⟩ := k3; exact DataW.trod_lt m _ _ _ hm); obtain ⟨A3, c3, l3, rfl, a3, b3, x3, y3⟩ := open_list (hval 3 28 v3 rfl rfl) h3; clear hA0 hval0 hsz0; obtain ⟨k, hk⟩ := (CoolBroken_pure H0 S0 l1 n2 l3 x0 y0 z0 x1 w2 x3).rounds; (refine (taliklaw03_CoolBroken.calls k A0 c0 H0 B0 e0 S0 A1 c1 l1 n2 A3 c3 l3 true W a0 b0 f0 g0 a1 b1  a3 b3 hk).mono fun e W' ⟨he, bel⟩ => ?_); subst he; (exact ⟨_, rfl, _, _, _, [], _, [], hW', trodAll_mk1 (shut_bool Try.underlying4 _), (trodAll_cons_mk (Below.trod laidOut (by kernel_rfl) (of_decide_eq_true (by kernel_rfl)) k0 bel lt0) (trodAll_cons_mk (Below.trod laidOut (by kernel_rfl) (of_decide_eq_true (by kernel_rfl)) k1 bel lt1) (trodAll_cons_mk (shut_int Try.underlying3 w2) (trodAll_cons_mk (Below.trod laidOut (by kernel_rfl) (of_decide_eq_true (by kernel_rfl)) k3 bel lt3) trodAll_mk0)))), rfl, bel.frame _, fun h => by cases h⟩)
theorem over : Rows.coolBrokenRow.holds Try.pinned (OpenSpec.ofChange Rows.coolBrokenSpec) :=
  OpenClaim.holds_of_wide 11 Try.f11 rfl rfl rfl rfl rfl rfl rfl ⟨rfl, rfl, rfl, rfl, rfl⟩ rfl rfl rfl rfl rfl (by kernel_rfl) Try.func11 (by kernel_rfl)
    (of_decide_eq_true (by kernel_rfl)) (by unfold Func.isWrapper; first | (rw [if_pos (by decide +kernel)]; kernel_rfl) | (rw [if_neg (by decide +kernel)]; exact ⟨rfl, rfl⟩))
    (fun os started H enc _ => lifted os started H enc)
theorem proved : Rows.CoolBrokenSaid := over
end Go.Proofs.Ytmkdllaagaimlaa.coolBroken
namespace Go.Proofs.Ytmkdllaagaimlaa
theorem coolBroken_holds : Rows.CoolBrokenSaid := coolBroken.proved
#print axioms coolBroken_holds
end Go.Proofs.Ytmkdllaagaimlaa
end
