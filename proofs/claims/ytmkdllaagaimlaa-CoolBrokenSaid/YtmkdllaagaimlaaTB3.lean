/- Lemmas for the proof that the row of CoolBroken holds: contracts of the functions it reaches, and plain laws; no condition beyond each lemma's own. -/
import Derived.Test.YtmkdllaagaimlaaTB2
import Derived.WalkMore
import Derived.Laws.EntriesVeiled
import Derived.RangeFuncWrites
import Derived.RangeFuncBound
import Derived.RangeFuncCalls
import Derived.WalkKit
import Derived.TacticsInMore
import Derived.LoopIn
import Derived.Shelf.RegionOpen
import Derived.RangeFuncLeaves
section
namespace Go.Proofs.Ytmkdllaagaimlaa.C
open Go.RowKit Go.Proofs.YtmkdllaagaimlaaW.PrintWords Go.Proofs.YtmkdllaagaimlaaW.PrintLast Go.Proofs.YtmkdllaagaimlaaW.PrintMore
set_option linter.unusedVariables false
set_option linter.unusedSimpArgs false
def ag5.T : Bool × List (List Nat × List Nat) := (true, [([], []), ([], []), ([1], [1]), ([0, 2], [0, 2]), ([3, 0, 1, 2, 3], [3])])
def ag5.B : List Nat := [0, 0, 2, 7, 15]
theorem ag5.tab : rtab .any (opsOf Try.f62 5) = ag5.T := by kernel_rfl
theorem ag5.bits : waitsOk ag5.T.2 ag5.B = true := by kernel_rfl
def ag19.T : Bool × List (List Nat × List Nat) := (true, [([], []), ([], []), ([1], [1]), ([2], [2]), ([3], [3]), ([4], [4]), ([], []), ([5, 6], [5, 6]), ([7], [7]), ([8], [8]), ([0, 9], [0, 9]), ([10, 0, 1, 2, 3, 4, 5, 6, 7, 8, 9, 10], [10])])
def ag19.B : List Nat := [0, 0, 2, 6, 14, 30, 0, 126, 254, 510, 1023, 2047]
theorem ag19.tab : rtab .any (opsOf Try.f62 19) = ag19.T := by kernel_rfl
theorem ag19.bits : waitsOk ag19.T.2 ag19.B = true := by kernel_rfl
def ag20.T : Bool × List (List Nat × List Nat) := (true, [([], []), ([], []), ([1], [1]), ([0, 2], [0, 2]), ([3, 0, 1, 2, 3], [3])])
def ag20.B : List Nat := [0, 0, 2, 7, 15]
theorem ag20.tab : rtab .any (opsOf Try.f62 20) = ag20.T := by kernel_rfl
theorem ag20.bits : waitsOk ag20.T.2 ag20.B = true := by kernel_rfl
def stepA (H : List S60) (S : List S64) (st : Nat × Int × List Int) (x : Int) : Nat × Int × List Int := (st.1 ||| 2 ^ x.toNat, st.2.1 + (rd_T64 S x).f1, lookL H S (st.1 ||| 2 ^ x.toNat) (st.2.1 + (rd_T64 S x).f1) st.2.2)
def startA (H : List S60) (S : List S64) (C : Nat) (l : List Int) : Nat × Int × List Int := (l.foldl (fun W x => clr W x.toNat) C, 0, lookL H S (l.foldl (fun W x => clr W x.toNat) C) 0 (List.replicate H.length (-1)))
def againL (H : List S60) (S : List S64) (C : Nat) (l : List Int) : List Int := (l.foldl (stepA H S) (startA H S C l)).2.2
theorem RI_made (W : World) (base n : Nat) (hb : base ≤ W.heap.size) (hn : n ≤ 100) : Kd.R (Kd.int .i64) 3 (W.alloc (.cells (madeCells #[.int .i64 0] n) 3 (0, 0))) base (fun _ => True) (.slice (some ⟨W.heap.size, 0, none⟩) n n) (List.replicate n 0) := by
 (refine Kd.R_of_own ?_ (fun _ _ => trivial)); (have h := own_made_of (enc := Value.int .i64) (d := (0 : Int)) W base 3 n hb (by omega)); rw [List.length_replicate]; exact h
theorem RI_own {w w1 : World} {base : Nat} {ok : Nat → Prop} {v : Value} {xs : List Int} (h : Kd.R (Kd.int .i64) 3 w base ok v xs) (hm : ∀ k, v.ownBlock = some k → w1.heap[k]? = w.heap[k]?) : Kd.R (Kd.int .i64) 3 w1 base ok v xs := by
 (have h' : Kd.R (Kd.int .i64) 3 w base (fun k => v.ownBlock = some k) v xs := ⟨fun k hk => hk, h.2.imp_ (fun _ _ hp => hp)⟩); (exact Kd.R_mono (Kd.R_move h' hm) (fun k hk => h.1 k hk))
theorem site_weeks {H : List S60} {S : List S64} (hv : validB H S = true) {j : Nat} (hj : j < S.length) : 1 ≤ (rd_T64 S (j : Int)).f1 ∧ (rd_T64 S (j : Int)).f1 ≤ 100 := by
 unfold validB at hv; simp only [Bool.and_eq_true, decide_eq_true_eq, List.all_eq_true] at hv; (have h := hv.2 (rd_T64 S (j : Int)) (by simp [rd_T64, List.getD_eq_getElem?_getD, List.getElem?_eq_getElem hj])); simp only [siteB, Bool.and_eq_true, decide_eq_true_eq] at h; exact h.1.1.2
theorem mp_set {w : World} {M g : Nat} {H : List S60} {S : List S64} (h : Mp w M H S) (hne : M ≠ g) (u : Value) : Mp (w.setCell ⟨g, 0, none⟩ u) M H S := by
 obtain ⟨es, cl, h1, h2⟩ := h; exact ⟨es, cl, (Below.heap_setCell w ⟨g, 0, none⟩ u M hne).trans h1, h2⟩
theorem grown_set {w wr : World} {M g : Nat} (h : w.grownBy wr (some M)) (hg : w.heap.size ≤ g) (u : Value) : w.grownBy (wr.drew.setCell ⟨g, 0, none⟩ u) (some M) :=
  ⟨h.os, h.tape, h.output, by have := h.size; simp [World.setCell]; exact this, fun k hk hne => (Below.heap_setCell wr.drew ⟨g, 0, none⟩ u k (by show k ≠ g; omega)).trans (h.block k hk hne)⟩
theorem take_fold {α : Type} (f : α → Int → α) (a : α) {l : List Int} {i : Nat} (h : i < l.length) : (l.take (i + 1)).foldl f a = f ((l.take i).foldl f a) (rd l (i : Int)) := by
 (have e : rd l (i : Int) = l[i] := by simp [rd, List.getD_eq_getElem?_getD, List.getElem?_eq_getElem h]); rw [e, List.take_add_one, List.getElem?_eq_getElem h, List.foldl_append]; rfl
theorem clr_fold {n : Nat} (hn : n ≤ 64) : ∀ (l : List Int) (C : Nat), C < 2 ^ n → l.foldl (fun W x => clr W x.toNat) C < 2 ^ n
  | [], C, h => h
  | x :: r, C, h => clr_fold hn r _ (clr_lt _ h hn)
theorem grown_k2 {w w1 w2 : World} {M gR : Nat} (h : w.grownBy w1 (some M)) (k : K2 w1 w2 gR M) (hg : w.heap.size ≤ gR) : w.grownBy w2 (some M) :=
  ⟨k.os.trans h.os, k.tape.trans h.tape, k.output.trans h.output, Nat.le_trans h.size k.size, fun i hi hne => (k.block i (Nat.lt_of_lt_of_le hi h.size) (by omega) (fun e => hne (by rw [e]))).trans (h.block i hi hne)⟩
set_option maxHeartbeats 4000000 in
set_option maxRecDepth 100000 in
theorem again.calls (w0 : World) (B M : Nat) (A0 : Option Addr) (c0 : Nat) (H : List S60) (A1 : Option Addr) (c1 : Nat) (S : List S64) (C : Nat) (Al : Option Addr) (cl : Nat) (l : List Int) (w : World) (hs : Kd.C k60 w0 A0 H.length H) (ss : Kd.C k64 w0 A1 S.length S) (hlow : Below w0.heap.size w0 w) (hM : w0.heap.size ≤ M)
    (hbo : Bo w B A0 H.length c0 A1 S.length c1 C M) (hmp : Mp w M H S) (hv : validB H S = true) (hC : C < 2 ^ S.length) (hl : Kd.C (Kd.int .i64) w Al l.length l) (hlS : ∀ x ∈ l, ∃ j : Nat, x = j ∧ j < S.length) (hl6 : l.length ≤ 6) :
    Calls Try.prog 62 #[.pointer (some ⟨B, 0, none⟩), .slice Al l.length cl] w fun e w' => ∃ v : Value, e = .returned v ∧ Kd.R (Kd.int .i64) 3 w' w.heap.size (fun _ => True) v (againL H S C l) ∧ Mp w' M H S ∧ w.grownBy w' (some M) := by
 have hu94 := Try.underlying94; have hu25 := Try.underlying25; (have hmf : ∀ (fn : Fn) (first cap : Array Value) (w : World), (Instr.makeFunc fn first cap).run Try.prog w = .ok (.func fn first cap) w := fun _ _ _ _ => rfl); obtain ⟨v1, v2, v3, v4, v5, v6⟩ := valid_facts hv; have HS0 := Aside0.mk hs; have HS1 := Aside0.mk ss; have HLOW := Aside0.mk hlow; have HM0 := Aside0.mk hM; have HBO := Aside0.mk hbo; have HMI := Aside0.mk hmp; have HG := Aside0.mk v5; have HCB := Aside0.mk v6; have HV := Aside0.mk hv; have HC := Aside0.mk hC; have HL := Aside0.mk hl; have HLS := Aside0.mk hlS; have HL6 := Aside0.mk hl6; have HH6 := Aside0.mk v2; have HS10 := Aside0.mk v4; clear hs ss hlow hM hbo hmp hv hC hl hlS hl6 v1 v2 v3 v4 v5 v6; go_enter Try.func62, Try.ntmps62; (go_wp2_with ((with_reducible refine gate_dst (N := 2) rfl ?_); refine box_event ?hg (N := 2) ?hd (cs := #[.pointer (some ⟨B, 0, none⟩)]) (t := 88) ?hr ?_; (case hd => rfl); (case hg => rfl); (case hr => first | (go_simp; done) | (go_simp; rfl)); intro g2 hg w8 hbox hb; have V2 := Aside0.mk (show Vr w8 g2 88 _ from hbox); have HB := Aside0.mk hb; have hc2 : w8.cell? ⟨g2, 0, none⟩ = some (.pointer (some ⟨B, 0, none⟩)) := (blk_cell hbox 0).trans rfl; have hcB : w8.cell? ⟨B, 2, none⟩ = some (.int .i64 C) := (blk_cell (HBO.out.below hb) 2).trans rfl; have hg2l : g2 < w8.heap.size := blk_lt hbox; have hgBl : B < w8.heap.size := blk_lt (HBO.out.below hb); clear hbox hb hg)); have HBa := (Below.refl w8.heap.size w8).alloc (Nat.le_refl _) (.cells #[.int .i64 (C : Int)] 84 (0, 0)); have V21 := Aside0.mk (V2.out.below HBa); have HB1 := Aside0.mk (below_step HB.out HBa); (have V51 := Aside0.mk (show Vr (w8.alloc (.cells #[.int .i64 (C : Int)] 84 (0, 0))) w8.heap.size 84 (.int .i64 C) from blk_new w8 _)); (have G5 := Aside0.mk (show w.heap.size ≤ w8.heap.size from HB.out.size)); obtain ⟨g5, hg5⟩ : ∃ g5, w8.heap.size = g5 := ⟨_, rfl⟩; obtain ⟨W1, hW1⟩ : ∃ W1, w8.alloc (.cells #[.int .i64 (C : Int)] 84 (0, 0)) = W1 := ⟨_, rfl⟩; rw [hg5] at V51 G5 ⊢; rw [hW1] at V21 HB1 V51 ⊢; clear hg5 hW1 HBa V2 HB hc2 hcB hg2l hgBl; obtain ⟨nl, hnl⟩ : ∃ nl, l.length = nl := ⟨_, rfl⟩; have HNL := Aside0.mk hnl; (have hl6 : nl ≤ 6 := by rw [← hnl]; exact HL6.out); rw [hnl]; clear hnl; (go_loopg [20] nl (fun kq v20 wr => ∃ (i Wi : Nat), v20 = .int .i64 i ∧ kq + i = nl ∧ Aside0 ((l.take i).foldl (fun W x => clr W x.toNat) C = Wi) ∧ Aside0 (Vr wr g2 88 (.pointer (some ⟨B, 0, none⟩))) ∧ Aside0 (Vr wr g5 84 (.int .i64 Wi)) ∧ Aside0 (Below w.heap.size w wr))); (case atStart => exact ⟨0, C, rfl, by omega, Aside0.mk rfl, V21, V51, HB1⟩)
 case round =>
  obtain ⟨i, Wi, rfl, hki, HWI, V2r, V5r, HBr⟩ := hrel; by_cases hi : i < nl
  · (have hi' : decide ((i : Int) < (nl : Int)) = true := by simp; omega); (have hd0 : decide (0 ≤ (i : Int)) = true := by simp); (have hiL : i < l.length := by rw [HNL.out]; exact hi); (obtain ⟨adl, hAL, hxl⟩ := Kd.at_int (Kd.C_below HL.out HBr.out) (i : Int) (by omega) (by omega)); simp only [Int.toNat_natCast] at hxl; obtain ⟨j, hj, hjS⟩ := HLS.out (rd l (i : Int)) (rd_mem hiL); rw [hj] at hxl; (have hj10 : j < 10 := by have := HS10.out; omega); obtain ⟨p, hp⟩ : ∃ p, 2 ^ j = p := ⟨_, rfl⟩
    have hsh : wrap64 (2 ^ j) = (p : Int) := by
     (have h := shl_pow2 j (by omega)); (rw [Nat.min_eq_left (by omega)] at h); rw [← hp]; exact h
    (have hWi : Wi < 2 ^ S.length := by rw [← HWI.out]; exact clr_fold (by have := HS10.out; omega) _ _ HC.out); (have hW62 : Wi < 2 ^ 62 := Nat.lt_of_lt_of_le hWi (Nat.pow_le_pow_right (by decide) (by have := HS10.out; omega))); obtain ⟨Wj, hWj⟩ : ∃ Wj, clr Wi j = Wj := ⟨_, rfl⟩; (have hbit : bits .andNot .i64 (Wi : Int) (p : Int) = (Wj : Int) := by rw [← hp, ← hWj]; exact bits_clr j hW62); (have HWJ : Aside0 ((l.take (i + 1)).foldl (fun W x => clr W x.toNat) C = Wj) := ⟨by rw [take_fold (fun W x => clr W x.toNat) C hiL, HWI.out, hj, ← hWj]; rfl⟩); have h5c := V5r.out.cell; have h5f := V5r.out.frozen; subst hAL; clear hj hp hWi hW62 hWj; go_wp2; (refine start_ (n := 5) (S := fun w' => w'.cell? ⟨g5, 0, none⟩ = some (.int .i64 Wi)) (ds := [4]) #[false, false, false, false, false] (by kernel_rfl) rfl rfl h5c (fun hHeld => ?_); refine with_tabW ag5.tab ag5.bits (fun HT_ HW_ => ?_)); (refine take_ (i := 0) (N := some 24) (v := ?_) (a' := ?_) #[true, false, false, false, false] rfl rfl (take_ofW HT_.out HW_.out (by kernel_rfl)) (fun _ _ _ h => h) (Or.inl ⟨by rfl, ?_⟩) hHeld ?_ ?_); rotate_left
    · rintro w' s0; go_simp; (with_reducible rfl)
    rotate_left
    · simp only [Act.put, List.setIfInBounds_toArray, List.set_cons_zero, List.set_cons_succ, i64_w, i32_w]; rfl
    (refine pure_ (i := 1) (N := some 25) (v := ?_) (a' := ?_) #[true, true, false, false, false] rfl rfl (any_of HT_.out (by kernel_rfl)) (fun _ _ _ h => h) (Or.inl ⟨by rfl, ?_⟩) ?_ ?_); rotate_left
    · intro w'; go_simp; (with_reducible rfl)
    rotate_left
    · simp only [Act.put, List.setIfInBounds_toArray, List.set_cons_zero, List.set_cons_succ, i64_w, i32_w]; rfl
    (refine pure_ (i := 2) (N := some 26) (v := ?_) (a' := ?_) #[true, true, true, false, false] rfl rfl (any_of HT_.out (by kernel_rfl)) (fun _ _ _ h => h) (Or.inl ⟨by rfl, ?_⟩) ?_ ?_); rotate_left
    · intro w'; go_simp; (with_reducible rfl)
    rotate_left
    · simp only [Act.put, List.setIfInBounds_toArray, List.set_cons_zero, List.set_cons_succ, i64_w, i32_w, hsh]; rfl
    (refine pure_ (i := 3) (N := some 27) (v := ?_) (a' := ?_) #[true, true, true, true, false] rfl rfl (any_of HT_.out (by kernel_rfl)) (fun _ _ _ h => h) (Or.inl ⟨by rfl, ?_⟩) ?_ ?_); rotate_left
    · intro w'; go_simp; (with_reducible rfl)
    rotate_left
    · simp only [Act.put, List.setIfInBounds_toArray, List.set_cons_zero, List.set_cons_succ, i64_w, i32_w, hbit]; rfl
    (refine last_ (i := 4) (N := none) #[true, true, true, true, true] rfl rfl (one_of HT_.out (by kernel_rfl)) (by decide) (fun K hK => ?_)); (refine skip_ (w1 := wr.drew.setCell ⟨g5, 0, none⟩ (.int .i64 Wj)) (by rfl) rfl (by go_simp) ?_); refine hK.out _ _ ?_; clear hK K; (refine done_ (done_of HT_.out (by kernel_rfl)) ?_); go_wp2; go_roundg (nl - (i + 1)); (case measure => omega)
    case rel =>
     exact ⟨i + 1, Wj, (congrArg (Value.int .i64) (by first | omega | (rw [wrap64_of _ (by omega) (by omega)]; omega))), by omega, HWJ, Aside0.mk (blk_far (blk_drew V2r.out) (p := ⟨g5, 0, none⟩) (blk_ne V2r.out V5r.out (by decide)) _), Aside0.mk (blk_set (blk_drew V5r.out) 0 _), Aside0.mk (HBr.out.drew.setCell (p := ⟨g5, 0, none⟩) G5.out _)⟩
  · (have hi' : decide ((i : Int) < (nl : Int)) = false := by simp; omega); (obtain rfl : nl = i := by omega); (have HW0 : Aside0 (l.foldl (fun W x => clr W x.toNat) C = Wi) := ⟨by have h := HWI.out; rwa [List.take_of_length_le (by have := HNL.out; omega)] at h⟩); have h2c := V2r.out.cell; have hb0 : wr.cell? ⟨B, 0, none⟩ = some (.slice A0 H.length c0) := (blk_cell (HBO.out.below HBr.out) 0).trans rfl; (have hms := print_make_of (P := Try.prog) 28 3 (.int .i64 0) 8 Try.underlying28 info3 rfl (by decide) H.length (by have := HH6.out; omega)); go_wp2; (have hsl : wr.heap.size + 1 = (wr.alloc (.cells (madeCells #[.int .i64 0] H.length) 3 (0, 0))).heap.size := by simp); (have HRm := RI_made wr w.heap.size H.length HBr.out.size (by have := HH6.out; omega)); have HBm := (Below.refl wr.heap.size wr).alloc (Nat.le_refl _) (.cells (madeCells #[.int .i64 0] H.length) 3 (0, 0)); have HBn := HBm.alloc HBm.size (.cells #[.slice (some ⟨wr.heap.size, 0, none⟩) H.length H.length] 28 (0, 0)); have HRn := RI_below HRm ((Below.refl _ _).alloc (Nat.le_refl _) (.cells #[.slice (some ⟨wr.heap.size, 0, none⟩) H.length H.length] 28 (0, 0))); have V8n := blk_new (wr.alloc (.cells (madeCells #[.int .i64 0] H.length) 3 (0, 0))) (.cells #[.slice (some ⟨wr.heap.size, 0, none⟩) H.length H.length] 28 (0, 0)); rw [← hsl] at V8n; have V2n := V2r.out.below HBn; have V5n := V5r.out.below HBn; have HBN := below_step HBr.out HBn; (have G8 := Aside0.mk (show w.heap.size ≤ wr.heap.size + 1 by have := HBr.out.size; omega)); (have GR := Aside0.mk (show w.heap.size ≤ wr.heap.size from HBr.out.size)); obtain ⟨gR, hgR⟩ : ∃ gR, wr.heap.size = gR := ⟨_, rfl⟩; rw [hgR] at HRn V8n G8 GR ⊢; obtain ⟨g8, hg8⟩ : ∃ g8, gR + 1 = g8 := ⟨_, rfl⟩; rw [hg8] at V8n G8 ⊢; rw [hgR] at V2n V5n HBN; obtain ⟨W2, hW2⟩ : ∃ W2, (wr.alloc (.cells (madeCells #[.int .i64 0] H.length) 3 (0, 0))).alloc (.cells #[.slice (some ⟨gR, 0, none⟩) H.length H.length] 28 (0, 0)) = W2 := ⟨_, rfl⟩; rw [hW2] at HRn V8n V2n V5n HBN ⊢; have HRN := Aside0.mk HRn; (have V8N := Aside0.mk (show Vr W2 g8 28 (.slice (some ⟨gR, 0, none⟩) H.length H.length) from V8n)); have V2N := Aside0.mk V2n; have V5N := Aside0.mk V5n; have HBNN := Aside0.mk HBN; clear hsl HRm HBm HBn HRn V8n V2n V5n HBN hW2 hg8 hgR V2r V5r HBr h2c hb0 hms; obtain ⟨nH, hnH⟩ : ∃ n, H.length = n := ⟨_, rfl⟩; have HNH := Aside0.mk hnH; (have hH6 : nH ≤ 6 := by rw [← hnH]; exact HH6.out); rw [hnH] at HRN V8N ⊢; clear hnH; (go_loopg [38] nH (fun kq v38 wr => ∃ (i : Nat) (xs : List Int), v38 = .int .i64 i ∧ kq + i = nH ∧ Aside0 (xs.length = nH ∧ ∀ j, j < i → xs[j]? = some (-1)) ∧ Aside0 (Kd.R (Kd.int .i64) 3 wr w.heap.size (fun _ => True) (.slice (some ⟨gR, 0, none⟩) nH nH) xs) ∧ Aside0 (Vr wr g8 28 (.slice (some ⟨gR, 0, none⟩) nH nH)) ∧ Aside0 (Vr wr g2 88 (.pointer (some ⟨B, 0, none⟩))) ∧ Aside0 (Vr wr g5 84 (.int .i64 Wi)) ∧ Aside0 (Below w.heap.size w wr))); (case atStart => exact ⟨0, _, rfl, rfl, Aside0.mk ⟨List.length_replicate, fun j hj => absurd hj (Nat.not_lt_zero j)⟩, HRN, V8N, V2N, V5N, HBNN⟩)
    case round =>
     obtain ⟨i, xs, rfl, hki2, HXS, HRR, V8r, V2r, V5r, HBr⟩ := hrel; have hr8 := V8r.out.cell; by_cases hi3 : i < nH
     · (have hi3' : decide ((i : Int) < (nH : Int)) = true := by simp; omega); (have hd0 : decide (0 ≤ (i : Int)) = true := by simp); (obtain ⟨hcx, hfx⟩ := Kd.R_celln (0 : Int) HRR.out (i : Int) (by omega) (by omega)); simp only [Int.toNat_natCast] at hcx hfx; have hput := Kd.R_putg HRR.out (i : Int) (-1); simp only [Int.toNat_natCast] at hput; have HPUT := Aside0.mk hput; clear hput; go_wp2; go_roundg (nH - (i + 1)); (case measure => omega)
       case rel =>
        obtain ⟨cs, hcs⟩ := RI_typed HRR.out; (refine ⟨i + 1, xs.set i (-1), (congrArg (Value.int .i64) (by first | omega | (rw [wrap64_of _ (by omega) (by omega)]; omega))), by omega, Aside0.mk ⟨by rw [List.length_set]; exact HXS.out.1, fun j hj => ?_⟩, Aside0.mk HPUT.out.1, Aside0.mk (blk_far V8r.out (p := ⟨gR, i, none⟩) (ne_row V8r.out hcs (by decide)) _), Aside0.mk (blk_far V2r.out (p := ⟨gR, i, none⟩) (ne_row V2r.out hcs (by decide)) _), Aside0.mk (blk_far V5r.out (p := ⟨gR, i, none⟩) (ne_row V5r.out hcs (by decide)) _), Aside0.mk (HBr.out.setCell (p := ⟨gR, i, none⟩) GR.out _)⟩); rw [List.getElem?_set]; by_cases hji : i = j
        · rw [if_pos hji, if_pos (by rw [HXS.out.1]; exact hi3)]
        · rw [if_neg hji]; exact HXS.out.2 j (by omega)
     · have hi3' : decide ((i : Int) < (nH : Int)) = false := by simp; omega
       have hxs : xs = List.replicate nH (-1) := by
        apply List.ext_getElem
        · rw [HXS.out.1, List.length_replicate]
        · intro j h1 h2; (have h := HXS.out.2 j (by rw [HXS.out.1] at h1; omega)); rw [List.getElem?_eq_getElem h1] at h; rw [List.getElem_replicate]; exact Option.some.inj h
       subst hxs
       have NBM : Aside0 (B ≠ M) := ⟨by
        rintro rfl; obtain ⟨es, cl, h1, _⟩ := HMI.out; have h2 := HBO.out; unfold Bo at h2; rw [h1] at h2
        cases h2⟩
       (have HMW := Aside0.mk (show M < w.heap.size by obtain ⟨es, cl, h1, _⟩ := HMI.out; exact blk_lt h1)); obtain ⟨cs, hcs⟩ := RI_typed HRR.out; have hgRl := blk_lt hcs; have HBa := (Below.refl wr.heap.size wr).alloc (Nat.le_refl _) (.cells #[.int .i64 0] 3 (0, 0)); have HBx := below_step HBr.out HBa; have HGX := grown_of_below HBx (some M); (have HWI0 : Wi < 2 ^ S.length := by rw [← HW0.out]; exact clr_fold (by have := HS10.out; omega) _ _ HC.out)
       have hag : Calls Try.prog 88 #[.pointer (some ⟨g8, 0, none⟩), .pointer (some ⟨g2, 0, none⟩), .pointer (some ⟨g5, 0, none⟩), .pointer (some ⟨wr.heap.size, 0, none⟩)] (wr.alloc (.cells #[.int .i64 0] 3 (0, 0))) fun e w' => e = .returned (.tuple #[]) ∧ Mp w' M H S ∧ Kd.R (Kd.int .i64) 3 w' w.heap.size (fun _ => True) (.slice (some ⟨gR, 0, none⟩) nH nH) (lookL H S Wi 0 (List.replicate nH (-1))) ∧ K2 (wr.alloc (.cells #[.int .i64 0] 3 (0, 0))) w' gR M := by
        (have h := again1.calls w0 B M A0 c0 H A1 c1 S C gR nH g8 g2 g5 wr.heap.size Wi 0 (List.replicate nH (-1)) w.heap.size (fun _ => True) (wr.alloc (.cells #[.int .i64 0] 3 (0, 0))) HS0.out HS1.out (grown_below2 HLOW.out HGX HM0.out) HM0.out (Nat.le_trans HLOW.out.size GR.out) (blk_grown HBO.out HGX (fun e => NBM.out (Option.some.inj e))) (HMI.out.below HBx) HG.out HCB.out HWI0 (by rw [List.length_replicate, HNH.out]) HH6.out (by rw [HNH.out]; exact (V8r.out.below HBa)) (V2r.out.below HBa) (V5r.out.below HBa) (blk_new wr _) (by rw [HNH.out]; exact (RI_below HRR.out HBa)) (by omega)); rw [HNH.out] at h; exact h
       have V8x := Aside0.mk (V8r.out.below HBa); have V2x := Aside0.mk (V2r.out.below HBa); have V5x := Aside0.mk (V5r.out.below HBa); (have V10x := Aside0.mk (show Vr (wr.alloc (.cells #[.int .i64 0] 3 (0, 0))) wr.heap.size 3 (.int .i64 0) from blk_new wr _)); have HGXX := Aside0.mk HGX; have HRx := Aside0.mk (RI_below HRR.out HBa); have HMx := Aside0.mk (HMI.out.below HBx); (have HNE := Aside0.mk (show wr.heap.size ≠ gR by omega)); (have HG10 := Aside0.mk (show w.heap.size ≤ wr.heap.size from HBr.out.size)); obtain ⟨g10, hg10⟩ : ∃ g10, wr.heap.size = g10 := ⟨_, rfl⟩; obtain ⟨Wx, hWx⟩ : ∃ Wx, wr.alloc (.cells #[.int .i64 0] 3 (0, 0)) = Wx := ⟨_, rfl⟩; rw [hg10] at hag V10x HNE HG10; rw [hWx] at hag V8x V2x V5x V10x HGXX HRx HMx; have HE1 := Aside0.mk hg10; have HE2 := Aside0.mk hWx; clear hg10 hWx; (go_wp2_with (first | (rw [HE1.out, HE2.out]; (go_at_call 88; (with_reducible refine hag.mono ?_); rintro e wz ⟨rfl, hmp, hr, hk⟩; have HMPZ := Aside0.mk hmp; have HRZ := Aside0.mk hr; have HKZ := Aside0.mk hk; clear hmp hr hk)))); (have N8 := Aside0.mk (And.intro (ne_row V8x.out (RI_typed HRx.out).choose_spec (by decide)) (ne_map V8x.out HMx.out))); (have N2 := Aside0.mk (And.intro (ne_row V2x.out (RI_typed HRx.out).choose_spec (by decide)) (ne_map V2x.out HMx.out))); (have N5 := Aside0.mk (And.intro (ne_row V5x.out (RI_typed HRx.out).choose_spec (by decide)) (ne_map V5x.out HMx.out))); have N10 := Aside0.mk (And.intro HNE.out (ne_map V10x.out HMx.out)); (have V8z := Aside0.mk (show Vr wz g8 28 _ from HKZ.out.blk V8x.out N8.out.1 N8.out.2)); (have V2z := Aside0.mk (show Vr wz g2 88 _ from HKZ.out.blk V2x.out N2.out.1 N2.out.2)); (have V5z := Aside0.mk (show Vr wz g5 84 _ from HKZ.out.blk V5x.out N5.out.1 N5.out.2)); (have V10z := Aside0.mk (show Vr wz g10 3 _ from HKZ.out.blk V10x.out N10.out.1 N10.out.2)); have HGZ := Aside0.mk (grown_k2 HGXX.out HKZ.out GR.out); (have HST : Aside0 (startA H S C l = (Wi, 0, lookL H S Wi 0 (List.replicate nH (-1)))) := ⟨by unfold startA; rw [HW0.out, HNH.out]⟩); have HWB := Aside0.mk HWI0; clear hag hcs hgRl HBa HBx HGX HWI0 V8r V2r V5r V8x V2x V5x V10x HKZ HGXX HRx HMx HE1 HE2 HRR HBr HXS; (go_loopg [50] nl (fun kq v50 wr => ∃ (i Wk : Nat) (wk : Int) (out : List Int), v50 = .int .i64 i ∧ kq + i = nl ∧ Aside0 ((l.take i).foldl (stepA H S) (startA H S C l) = (Wk, wk, out)) ∧ Aside0 (Wk < 2 ^ S.length ∧ 0 ≤ wk ∧ wk ≤ 100 * i ∧ out.length = H.length) ∧ Aside0 (Mp wr M H S) ∧ Aside0 (Kd.R (Kd.int .i64) 3 wr w.heap.size (fun _ => True) (.slice (some ⟨gR, 0, none⟩) nH nH) out) ∧ Aside0 (Vr wr g8 28 (.slice (some ⟨gR, 0, none⟩) nH nH)) ∧ Aside0 (Vr wr g2 88 (.pointer (some ⟨B, 0, none⟩))) ∧ Aside0 (Vr wr g5 84 (.int .i64 Wk)) ∧ Aside0 (Vr wr g10 3 (.int .i64 wk)) ∧ Aside0 (w.grownBy wr (some M)))); (case atStart => exact ⟨0, Wi, 0, _, rfl, by omega, Aside0.mk HST.out, Aside0.mk ⟨HWB.out, by decide, by decide, by rw [lookL_len, List.length_replicate, HNH.out]⟩, HMPZ, HRZ, V8z, V2z, V5z, V10z, HGZ⟩)
       case round =>
        obtain ⟨i, Wk, wk, out, rfl, hki3, HFD, HBD, HMr, HRr, V8r, V2r, V5r, V10r, HGr⟩ := hrel; by_cases hi4 : i < nl
        · (have hi4' : decide ((i : Int) < (nl : Int)) = true := by simp; omega); (have hd0 : decide (0 ≤ (i : Int)) = true := by simp); (have hiL : i < l.length := by rw [HNL.out]; exact hi4)
          have hmapc : ∀ a v, w.cell? a = some v → wr.cell? a = some v := by
           obtain ⟨es, cl', h1, _⟩ := HMI.out; (exact fun a v h => grown_cell HGr.out h1 h)
          (obtain ⟨adl, hAL, hxl⟩ := Kd.at_int (CI_cells hmapc HL.out) (i : Int) (by omega) (by omega)); simp only [Int.toNat_natCast] at hxl; obtain ⟨j, hj, hjS⟩ := HLS.out (rd l (i : Int)) (rd_mem hiL); rw [hj] at hxl; have HLOWr := grown_below2 HLOW.out HGr.out HM0.out; (obtain ⟨ads, A2_, c2_, hA1, _, hx1, _, _, _⟩ := at_T64 (Kd.C_below HS1.out HLOWr) (j : Int) (by omega) (by omega)); simp only [Int.toNat_natCast] at hx1; obtain ⟨y, hy⟩ : ∃ y, (rd_T64 S (j : Int)).f1 = y := ⟨_, rfl⟩; rw [hy] at hx1; (have hyb : 1 ≤ y ∧ y ≤ 100 := by rw [← hy]; exact site_weeks HV.out hjS); (have hj10 : j < 10 := by have := HS10.out; omega); obtain ⟨p, hp⟩ : ∃ p, 2 ^ j = p := ⟨_, rfl⟩
          have hsh : wrap64 (2 ^ j) = (p : Int) := by
           (have h := shl_pow2 j (by omega)); (rw [Nat.min_eq_left (by omega)] at h); rw [← hp]; exact h
          (have hW62 : Wk < 2 ^ 62 := Nat.lt_of_lt_of_le HBD.out.1 (Nat.pow_le_pow_right (by decide) (by have := HS10.out; omega))); obtain ⟨Wj, hWj⟩ : ∃ Wj, Wk ||| 2 ^ j = Wj := ⟨_, rfl⟩; (have hbit : bits .or .i64 (Wk : Int) (p : Int) = (Wj : Int) := by rw [← hp, ← hWj]; exact bits_or _ _ hW62 (pow_lt62 hj10)); (have hWjb : Wj < 2 ^ S.length := by rw [← hWj]; exact Nat.or_lt_two_pow HBD.out.1 (Nat.pow_lt_pow_right (by decide) hjS)); (have hwk : wrap64 (wk + y) = wk + y := wrap64_of _ (by have := HBD.out; omega) (by have := HBD.out; omega))
          have HFD2 : Aside0 ((l.take (i + 1)).foldl (stepA H S) (startA H S C l) = (Wj, wk + y, lookL H S Wj (wk + y) out)) := ⟨by
           rw [take_fold (stepA H S) _ hiL, HFD.out, hj]
           simp only [stepA, Int.toNat_natCast, hWj, hy]⟩
          have h10c := V10r.out.cell; have h10f := V10r.out.frozen; have h5c := V5r.out.cell; have h5f := V5r.out.frozen; have h2c := V2r.out.cell; (have hbor := blk_grown HBO.out HGr.out (fun e => NBM.out (Option.some.inj e))); have hb1 : wr.cell? ⟨B, 1, none⟩ = some (.slice A1 S.length c1) := (blk_cell hbor 1).trans rfl; have HBWJ := Aside0.mk hWjb; have HYB := Aside0.mk hyb; subst hAL; rw [hA1] at hb1; clear hj hp hW62 hWj hWjb hyb hA1 hy hbor HLOWr hmapc; go_wp2; (refine start_ (n := 12) (S := fun w' => w'.cell? ⟨g10, 0, none⟩ = some (.int .i64 wk) ∧ w'.cell? ⟨g2, 0, none⟩ = some (.pointer (some ⟨B, 0, none⟩)) ∧ w'.cell? ⟨B, 1, none⟩ = some (.slice (some ads) S.length c1) ∧ w'.cell? ⟨(ads.add (j * 3)).block, (ads.add (j * 3)).off + 1, none⟩ = some (.int .i64 y)) (ds := [11]) #[false, false, false, false, false, false, false, false, false, false, false, false] (by kernel_rfl) rfl rfl ⟨h10c, h2c, hb1, hx1⟩ (fun hHeld => ?_); refine with_tabW ag19.tab ag19.bits (fun HT_ HW_ => ?_)); (refine take_ (i := 0) (N := some 54) (v := ?_) (a' := ?_) #[true, false, false, false, false, false, false, false, false, false, false, false] rfl rfl (take_ofW HT_.out HW_.out (by kernel_rfl)) (fun _ _ _ h => h) (Or.inl ⟨by rfl, ?_⟩) hHeld ?_ ?_); rotate_left
          · rintro w' ⟨s0, s1, s2, s3⟩; go_simp; (with_reducible rfl)
          rotate_left
          · simp only [Act.put, List.setIfInBounds_toArray, List.set_cons_zero, List.set_cons_succ, i64_w, i32_w]; rfl
          (refine take_ (i := 1) (N := some 55) (v := ?_) (a' := ?_) #[true, true, false, false, false, false, false, false, false, false, false, false] rfl rfl (take_ofW HT_.out HW_.out (by kernel_rfl)) (fun _ _ _ h => h) (Or.inl ⟨by rfl, ?_⟩) hHeld ?_ ?_); rotate_left
          · rintro w' ⟨s0, s1, s2, s3⟩; go_simp; (with_reducible rfl)
          rotate_left
          · simp only [Act.put, List.setIfInBounds_toArray, List.set_cons_zero, List.set_cons_succ, i64_w, i32_w]; rfl
          (refine pure_ (i := 2) (N := some 56) (v := ?_) (a' := ?_) #[true, true, true, false, false, false, false, false, false, false, false, false] rfl rfl (any_of HT_.out (by kernel_rfl)) (fun _ _ _ h => h) (Or.inl ⟨by rfl, ?_⟩) ?_ ?_); rotate_left
          · intro w'; go_simp; (with_reducible rfl)
          rotate_left
          · simp only [Act.put, List.setIfInBounds_toArray, List.set_cons_zero, List.set_cons_succ, i64_w, i32_w]; rfl
          (refine pure_ (i := 3) (N := some 57) (v := ?_) (a' := ?_) #[true, true, true, true, false, false, false, false, false, false, false, false] rfl rfl (any_of HT_.out (by kernel_rfl)) (fun _ _ _ h => h) (Or.inl ⟨by rfl, ?_⟩) ?_ ?_); rotate_left
          · intro w'; go_simp; (with_reducible rfl)
          rotate_left
          · simp only [Act.put, List.setIfInBounds_toArray, List.set_cons_zero, List.set_cons_succ, i64_w, i32_w]; rfl
          (refine pure_ (i := 4) (N := some 58) (v := ?_) (a' := ?_) #[true, true, true, true, true, false, false, false, false, false, false, false] rfl rfl (any_of HT_.out (by kernel_rfl)) (fun _ _ _ h => h) (Or.inl ⟨by rfl, ?_⟩) ?_ ?_); rotate_left
          · intro w'; go_simp; (with_reducible rfl)
          rotate_left
          · simp only [Act.put, List.setIfInBounds_toArray, List.set_cons_zero, List.set_cons_succ, i64_w, i32_w]; rfl
          (refine take_ (i := 5) (N := some 59) (v := ?_) (a' := ?_) #[true, true, true, true, true, true, false, false, false, false, false, false] rfl rfl (take_ofW HT_.out HW_.out (by kernel_rfl)) (fun _ _ _ h => h) (Or.inl ⟨by rfl, ?_⟩) hHeld ?_ ?_); rotate_left
          · rintro w' ⟨s0, s1, s2, s3⟩; go_simp; (with_reducible rfl)
          rotate_left
          · simp only [Act.put, List.setIfInBounds_toArray, List.set_cons_zero, List.set_cons_succ, i64_w, i32_w]; rfl
          (refine pure_ (i := 6) (N := some 60) (v := ?_) (a' := ?_) #[true, true, true, true, true, true, true, false, false, false, false, false] rfl rfl (any_of HT_.out (by kernel_rfl)) (fun _ _ _ h => h) (Or.inl ⟨by rfl, ?_⟩) ?_ ?_); rotate_left
          · intro w'; go_simp; (with_reducible rfl)
          rotate_left
          · simp only [Act.put, List.setIfInBounds_toArray, List.set_cons_zero, List.set_cons_succ, i64_w, i32_w]; rfl
          (refine pure_ (i := 7) (N := some 61) (v := ?_) (a' := ?_) #[true, true, true, true, true, true, true, true, false, false, false, false] rfl rfl (any_of HT_.out (by kernel_rfl)) (fun _ _ _ h => h) (Or.inl ⟨by rfl, ?_⟩) ?_ ?_); rotate_left
          · intro w'; go_simp; (with_reducible rfl)
          rotate_left
          · simp only [Act.put, List.setIfInBounds_toArray, List.set_cons_zero, List.set_cons_succ, i64_w, i32_w]; rfl
          (refine pure_ (i := 8) (N := some 62) (v := ?_) (a' := ?_) #[true, true, true, true, true, true, true, true, true, false, false, false] rfl rfl (any_of HT_.out (by kernel_rfl)) (fun _ _ _ h => h) (Or.inl ⟨by rfl, ?_⟩) ?_ ?_); rotate_left
          · intro w'; go_simp; (with_reducible rfl)
          rotate_left
          · simp only [Act.put, List.setIfInBounds_toArray, List.set_cons_zero, List.set_cons_succ, i64_w, i32_w]; rfl
          (refine take_ (i := 9) (N := some 63) (v := ?_) (a' := ?_) #[true, true, true, true, true, true, true, true, true, true, false, false] rfl rfl (take_ofW HT_.out HW_.out (by kernel_rfl)) (fun _ _ _ h => h) (Or.inl ⟨by rfl, ?_⟩) hHeld ?_ ?_); rotate_left
          · rintro w' ⟨s0, s1, s2, s3⟩; go_simp; (with_reducible rfl)
          rotate_left
          · simp only [Act.put, List.setIfInBounds_toArray, List.set_cons_zero, List.set_cons_succ, i64_w, i32_w]; rfl
          (refine pure_ (i := 10) (N := some 64) (v := ?_) (a' := ?_) #[true, true, true, true, true, true, true, true, true, true, true, false] rfl rfl (any_of HT_.out (by kernel_rfl)) (fun _ _ _ h => h) (Or.inl ⟨by rfl, ?_⟩) ?_ ?_); rotate_left
          · intro w'; go_simp; (with_reducible rfl)
          rotate_left
          · simp only [Act.put, List.setIfInBounds_toArray, List.set_cons_zero, List.set_cons_succ, i64_w, i32_w, hwk]; rfl
          (refine last_ (i := 11) (N := none) #[true, true, true, true, true, true, true, true, true, true, true, true] rfl rfl (one_of HT_.out (by kernel_rfl)) (by decide) (fun K hK => ?_)); (refine skip_ (w1 := wr.drew.setCell ⟨g10, 0, none⟩ (.int .i64 (wk + y))) (by rfl) rfl (by go_simp) ?_); refine hK.out _ _ ?_; clear hK K; (refine done_ (done_of HT_.out (by kernel_rfl)) ?_); (have hMpA := mp_set (show Mp wr.drew M H S from HMr.out) (fun e => N10.out.2 e.symm) (.int .i64 (wk + y))); (have hRA := RI_own (Kd.R_drew HRr.out) (w1 := wr.drew.setCell ⟨g10, 0, none⟩ (.int .i64 (wk + y))) (fun k hk => Below.heap_setCell _ ⟨g10, 0, none⟩ _ k (fun e => HNE.out.symm (by cases hk; exact e)))); (have hGA := grown_set HGr.out (g := g10) (show w.heap.size ≤ g10 from HG10.out) (.int .i64 (wk + y))); (have hV8A := Vr.far (w := wr.drew) V8r.out (p := ⟨g10, 0, none⟩) (blk_ne V8r.out V10r.out (by decide)) (.int .i64 (wk + y))); (have hV2A := Vr.far (w := wr.drew) V2r.out (p := ⟨g10, 0, none⟩) (blk_ne V2r.out V10r.out (by decide)) (.int .i64 (wk + y))); (have hV5A := Vr.far (w := wr.drew) V5r.out (p := ⟨g10, 0, none⟩) (blk_ne V5r.out V10r.out (by decide)) (.int .i64 (wk + y))); have hV10A := Vr.set (w := wr.drew) V10r.out (.int .i64 (wk + y)); generalize wr.drew.setCell ⟨g10, 0, none⟩ (.int .i64 (wk + y)) = wA at hMpA hRA hGA hV8A hV2A hV5A hV10A ⊢; have HMA := Aside0.mk hMpA; have HRA := Aside0.mk hRA; have HGA := Aside0.mk hGA; have V8A := Aside0.mk hV8A; have V2A := Aside0.mk hV2A; have V5A := Aside0.mk hV5A; have V10A := Aside0.mk hV10A; clear hMpA hRA hGA hV8A hV2A hV5A hV10A; have h5c := V5A.out.cell; have h5f := V5A.out.frozen; clear h10c h10f h2c hb1 hx1; go_wp2; (refine start_ (n := 5) (S := fun w' => w'.cell? ⟨g5, 0, none⟩ = some (.int .i64 Wk)) (ds := [4]) #[false, false, false, false, false] (by kernel_rfl) rfl rfl h5c (fun hHeld => ?_); refine with_tabW ag20.tab ag20.bits (fun HT_ HW_ => ?_)); (refine take_ (i := 0) (N := some 65) (v := ?_) (a' := ?_) #[true, false, false, false, false] rfl rfl (take_ofW HT_.out HW_.out (by kernel_rfl)) (fun _ _ _ h => h) (Or.inl ⟨by rfl, ?_⟩) hHeld ?_ ?_); rotate_left
          · rintro w' s0; go_simp; (with_reducible rfl)
          rotate_left
          · simp only [Act.put, List.setIfInBounds_toArray, List.set_cons_zero, List.set_cons_succ, i64_w, i32_w]; rfl
          (refine pure_ (i := 1) (N := some 66) (v := ?_) (a' := ?_) #[true, true, false, false, false] rfl rfl (any_of HT_.out (by kernel_rfl)) (fun _ _ _ h => h) (Or.inl ⟨by rfl, ?_⟩) ?_ ?_); rotate_left
          · intro w'; go_simp; (with_reducible rfl)
          rotate_left
          · simp only [Act.put, List.setIfInBounds_toArray, List.set_cons_zero, List.set_cons_succ, i64_w, i32_w]; rfl
          (refine pure_ (i := 2) (N := some 67) (v := ?_) (a' := ?_) #[true, true, true, false, false] rfl rfl (any_of HT_.out (by kernel_rfl)) (fun _ _ _ h => h) (Or.inl ⟨by rfl, ?_⟩) ?_ ?_); rotate_left
          · intro w'; go_simp; (with_reducible rfl)
          rotate_left
          · simp only [Act.put, List.setIfInBounds_toArray, List.set_cons_zero, List.set_cons_succ, i64_w, i32_w, hsh]; rfl
          (refine pure_ (i := 3) (N := some 68) (v := ?_) (a' := ?_) #[true, true, true, true, false] rfl rfl (any_of HT_.out (by kernel_rfl)) (fun _ _ _ h => h) (Or.inl ⟨by rfl, ?_⟩) ?_ ?_); rotate_left
          · intro w'; go_simp; (with_reducible rfl)
          rotate_left
          · simp only [Act.put, List.setIfInBounds_toArray, List.set_cons_zero, List.set_cons_succ, i64_w, i32_w, hbit]; rfl
          (refine last_ (i := 4) (N := none) #[true, true, true, true, true] rfl rfl (one_of HT_.out (by kernel_rfl)) (by decide) (fun K hK => ?_)); (refine skip_ (w1 := wA.drew.setCell ⟨g5, 0, none⟩ (.int .i64 Wj)) (by rfl) rfl (by go_simp) ?_); refine hK.out _ _ ?_; clear hK K; (refine done_ (done_of HT_.out (by kernel_rfl)) ?_); (have hMpB := mp_set (show Mp wA.drew M H S from HMA.out) (fun e => N5.out.2 e.symm) (.int .i64 Wj)); (have hRB := RI_own (Kd.R_drew HRA.out) (w1 := wA.drew.setCell ⟨g5, 0, none⟩ (.int .i64 Wj)) (fun k hk => Below.heap_setCell _ ⟨g5, 0, none⟩ _ k (fun e => N5.out.1.symm (by cases hk; exact e)))); (have hGB := grown_set HGA.out (g := g5) (show w.heap.size ≤ g5 from G5.out) (.int .i64 Wj)); (have hV8B := Vr.far (w := wA.drew) V8A.out (p := ⟨g5, 0, none⟩) (blk_ne V8A.out V5A.out (by decide)) (.int .i64 Wj)); (have hV2B := Vr.far (w := wA.drew) V2A.out (p := ⟨g5, 0, none⟩) (blk_ne V2A.out V5A.out (by decide)) (.int .i64 Wj)); (have hV10B := Vr.far (w := wA.drew) V10A.out (p := ⟨g5, 0, none⟩) (blk_ne V10A.out V5A.out (by decide)) (.int .i64 Wj)); have hV5B := Vr.set (w := wA.drew) V5A.out (.int .i64 Wj); generalize wA.drew.setCell ⟨g5, 0, none⟩ (.int .i64 Wj) = wB at hMpB hRB hGB hV8B hV2B hV10B hV5B ⊢; have HMB := Aside0.mk hMpB; have HRB := Aside0.mk hRB; have HGB := Aside0.mk hGB; have V8B := Aside0.mk hV8B; have V2B := Aside0.mk hV2B; have V10B := Aside0.mk hV10B; have V5B := Aside0.mk hV5B; clear hMpB hRB hGB hV8B hV2B hV10B hV5B
          have hag : Calls Try.prog 88 #[.pointer (some ⟨g8, 0, none⟩), .pointer (some ⟨g2, 0, none⟩), .pointer (some ⟨g5, 0, none⟩), .pointer (some ⟨g10, 0, none⟩)] wB fun e w' => e = .returned (.tuple #[]) ∧ Mp w' M H S ∧ Kd.R (Kd.int .i64) 3 w' w.heap.size (fun _ => True) (.slice (some ⟨gR, 0, none⟩) nH nH) (lookL H S Wj (wk + y) out) ∧ K2 wB w' gR M := by
           (have h := again1.calls w0 B M A0 c0 H A1 c1 S C gR nH g8 g2 g5 g10 Wj (wk + y) out w.heap.size (fun _ => True) wB HS0.out HS1.out (grown_below2 HLOW.out HGB.out HM0.out) HM0.out (Nat.le_trans HLOW.out.size GR.out) (blk_grown HBO.out HGB.out (fun e => NBM.out (Option.some.inj e))) HMB.out HG.out HCB.out HBWJ.out HBD.out.2.2.2 HH6.out (by rw [HNH.out]; exact V8B.out) V2B.out V5B.out V10B.out (by rw [HNH.out]; exact HRB.out) HNE.out); rw [HNH.out] at h; exact h
          clear h5c h5f; (go_wp2_with (first | (go_at_call 88; (with_reducible refine hag.mono ?_); rintro e wy ⟨rfl, hmp, hr, hk⟩; have HMPY := Aside0.mk hmp; have HRY := Aside0.mk hr; have HKY := Aside0.mk hk; clear hmp hr hk))); go_roundg (nl - (i + 1)); (case measure => omega)
          case rel =>
           exact ⟨i + 1, Wj, wk + y, _, (congrArg (Value.int .i64) (by first | omega | (rw [wrap64_of _ (by omega) (by omega)]; omega))), by omega, HFD2, Aside0.mk ⟨HBWJ.out, by have := HBD.out; have := HYB.out; omega, by have := HBD.out; have := HYB.out; omega, by rw [lookL_len]; exact HBD.out.2.2.2⟩, HMPY, HRY, Aside0.mk (HKY.out.blk V8B.out N8.out.1 N8.out.2), Aside0.mk (HKY.out.blk V2B.out N2.out.1 N2.out.2), Aside0.mk (HKY.out.blk V5B.out N5.out.1 N5.out.2), Aside0.mk (HKY.out.blk V10B.out N10.out.1 N10.out.2), Aside0.mk (grown_k2 HGB.out HKY.out GR.out)⟩
        · (have hi4' : decide ((i : Int) < (nl : Int)) = false := by simp; omega); have hr8 := V8r.out.cell; go_wp2; go_ret; refine ⟨_, rfl, ?_, HMr.out, HGr.out⟩; have hf := HFD.out; (rw [List.take_of_length_le (by have := HNL.out; omega)] at hf); unfold againL; rw [hf]; exact HRr.out
end Go.Proofs.Ytmkdllaagaimlaa.C
end
section
namespace Go.Proofs.Ytmkdllaagaimlaa.C
open Go.RowKit Go.Proofs.YtmkdllaagaimlaaW.PrintWords Go.Proofs.YtmkdllaagaimlaaW.PrintLast Go.Proofs.YtmkdllaagaimlaaW.PrintMore
set_option linter.unusedVariables false
set_option linter.unusedSimpArgs false
theorem index_l0 (l : List Int) (x : Int) (h6 : l.length ≤ 10) : ∀ (d i : Nat), i + d = l.length → ∀ k, d < k → ∃ r, slices_Index_int_int.l0 k l x (l.length : Int) (i : Int) = some r ∧ decide (r ≥ 0) = decide (x ∈ l.drop i) := by
 intro d
 induction d with
 | zero =>
  intro i hi k hk; (obtain ⟨k, rfl⟩ : ∃ m, k = m + 1 := ⟨k - 1, by omega⟩); refine ⟨-1, ?_, ?_⟩
  · simp only [slices_Index_int_int.l0]; (rw [if_neg (by omega)])
  · rw [List.drop_eq_nil_of_le (by omega)]; simp
 | succ d ih =>
  intro i hi k hk; (obtain ⟨k, rfl⟩ : ∃ m, k = m + 1 := ⟨k - 1, by omega⟩); simp only [slices_Index_int_int.l0]; (rw [if_pos (by omega), if_pos (by omega), if_pos (by omega), rd_drop (show i < l.length by omega)]); by_cases hx : x = rd l (i : Int)
  · (refine ⟨i, by rw [if_pos hx], ?_⟩); rw [← hx]; simp
  · (have hw : wrap64 ((i : Int) + 1) = ((i + 1 : Nat) : Int) := by rw [wrap64_of _ (by omega) (by omega)]; omega); (obtain ⟨r, h1, h2⟩ := ih (i + 1) (by omega) k (by omega)); (refine ⟨r, by rw [if_neg hx, hw, h1], ?_⟩); rw [h2]; simp [hx]
theorem contains_f (l : List Int) (x : Int) (h6 : l.length ≤ 10) (k : Nat) (hk : l.length < k) : slices_Contains_int_int.f k l x = some (decide (x ∈ l)) := by
 (obtain ⟨r, h1, h2⟩ := index_l0 l x h6 l.length 0 (by omega) k hk); unfold slices_Contains_int_int.f slices_Index_int_int.f; have h1' : slices_Index_int_int.l0 k l x (l.length : Int) 0 = some r := h1; rw [h1']; simp only [Option.bind_some, h2, List.drop_zero]
def okAt (C m : Nat) (l : List Int) (i : Nat) : Bool := (decide (0 ≤ rd l (i : Int)) && decide (rd l (i : Int) < m)) && (C.testBit (rd l (i : Int)).toNat && !decide (rd l (i : Int) ∈ l.take i))
def ordB (C m : Nat) (l : List Int) : Bool := (List.range l.length).all (okAt C m l)
set_option maxHeartbeats 4000000 in
set_option maxRecDepth 100000 in
theorem ordered.calls (B M : Nat) (A0 : Option Addr) (c0 : Nat) (H : List S60) (A1 : Option Addr) (c1 : Nat) (S : List S64) (C : Nat) (Al : Option Addr) (cl : Nat) (l : List Int) (w : World) (hbo : Bo w B A0 H.length c0 A1 S.length c1 C M) (hS : S.length ≤ 10) (hC : C < 2 ^ S.length) (hl : Kd.C (Kd.int .i64) w Al l.length l) (hcl : l.length ≤ cl) (hl6 : l.length ≤ 6) :
    Calls Try.prog 61 #[.pointer (some ⟨B, 0, none⟩), .slice Al l.length cl] w fun e w' => e = .returned (.bool (ordB C S.length l)) ∧ Below w.heap.size w w' := by
 have hu94 := Try.underlying94; have hu25 := Try.underlying25; have HBO := Aside0.mk hbo; have HS10 := Aside0.mk hS; have HC := Aside0.mk hC; have HL := Aside0.mk hl; have HCL := Aside0.mk hcl; have HL6 := Aside0.mk hl6; clear hbo hS hC hl hcl hl6; obtain ⟨nl, hnl⟩ : ∃ nl, l.length = nl := ⟨_, rfl⟩; have HNL := Aside0.mk hnl; (have hl6 : nl ≤ 6 := by rw [← hnl]; exact HL6.out); (have hcl : nl ≤ cl := by rw [← hnl]; exact HCL.out); obtain ⟨ob, hob⟩ : ∃ ob, ordB C S.length l = ob := ⟨_, rfl⟩; have HOB := Aside0.mk hob; rw [hnl, hob]; clear hnl hob; go_enter Try.func61, Try.ntmps61; go_wp2; (go_loopg [9] nl (fun kq v9 wr => ∃ i : Nat, v9 = .int .i64 i ∧ kq + i = nl ∧ Aside0 (∀ j, j < i → okAt C S.length l j = true) ∧ Aside0 (Below w.heap.size w wr))); (case atStart => exact ⟨0, rfl, by omega, Aside0.mk (fun j hj => absurd hj (Nat.not_lt_zero j)), Aside0.mk (Below.refl _ _)⟩)
 case round =>
  obtain ⟨i, rfl, hki, HOK, HBr⟩ := hrel; by_cases hi : i < nl
  · (have hi' : decide ((i : Int) < (nl : Int)) = true := by simp; omega); (have hd0 : decide (0 ≤ (i : Int)) = true := by simp); (have hiL : i < l.length := by rw [HNL.out]; exact hi); (obtain ⟨adl, hAL, hxl⟩ := Kd.at_int (Kd.C_below HL.out HBr.out) (i : Int) (by omega) (by omega)); simp only [Int.toNat_natCast] at hxl; obtain ⟨x, hx⟩ : ∃ x, rd l (i : Int) = x := ⟨_, rfl⟩; rw [hx] at hxl; have hbor := HBO.out.below HBr.out; have hb1 : wr.cell? ⟨B, 1, none⟩ = some (.slice A1 S.length c1) := (blk_cell hbor 1).trans rfl; have hb2 : wr.cell? ⟨B, 2, none⟩ = some (.int .i64 C) := (blk_cell hbor 2).trans rfl; (have hw0 : wrap64 ((S.length : Int) - 1) = (S.length : Int) - 1 := wrap64_of _ (by have := HS10.out; omega) (by have := HS10.out; omega)); (have HX : Aside0 (okAt C S.length l i = ((decide (0 ≤ x) && decide (x < S.length)) && (C.testBit x.toNat && !decide (x ∈ l.take i)))) := ⟨by unfold okAt; rw [hx]⟩); clear hx hbor; have hdl : Aside0 (ob = (List.range l.length).all (okAt C S.length l)) := ⟨HOB.out.symm⟩
    have HBAD : okAt C S.length l i = false → ob = false := fun h => by
     rw [hdl.out, List.all_eq_false]; (exact ⟨i, List.mem_range.2 hiL, by rw [h]; simp⟩)
    have HBD := Aside0.mk HBAD; clear HBAD; by_cases hr : 0 ≤ x ∧ x < S.length
    · (obtain ⟨n, rfl⟩ : ∃ n : Nat, x = n := ⟨x.toNat, by omega⟩); (have hn : n < 10 := by have := HS10.out; omega); (have hnS : n < S.length := by omega); (have hin : Aside0 (cool_in.f (n : Int) 0 ((S.length : Int) - 1) = some true) := ⟨by rw [cool_in_f]; simp; omega⟩); (have HC62 : C < 2 ^ 62 := Nat.lt_of_lt_of_le HC.out (Nat.pow_le_pow_right (by decide) (by have := HS10.out; omega))); (have hrr : (decide (0 ≤ (n : Int)) && decide ((n : Int) < S.length)) = true := by simp; exact hnS)
      cases hbit : C.testBit n with
      | false =>
       (have hhas : Aside0 (cool_set_has.f (C : Int) (n : Int) = some false) := ⟨by rw [has_f C n HC62 (by omega), hbit]⟩); (have HOBF : Aside0 (ob = false) := ⟨HBD.out (by rw [HX.out, hrr]; simp [hbit])⟩); subst hAL; clear hbit hrr HC62 hr; (go_wp2_with (first | (go_at_call 72; (with_reducible refine (cool_in.calls (n : Int) 0 ((S.length : Int) - 1) true _ hin.out).mono ?_); rintro e w5 ⟨rfl, ⟨nd5, rfl⟩⟩) | (go_at_call 73; (with_reducible refine (cool_set_has.calls (C : Int) (n : Int) false _ hhas.out).mono ?_); rintro e w6 ⟨rfl, ⟨nd6, rfl⟩⟩))); go_ret; (exact ⟨(by rw [HOBF.out]; rfl), pw_below_drewN HBr.out _⟩)
      | true =>
       (have hhas : Aside0 (cool_set_has.f (C : Int) (n : Int) = some true) := ⟨by rw [has_f C n HC62 (by omega), hbit]⟩); obtain ⟨cb, hcb⟩ : ∃ cb, decide ((n : Int) ∈ l.take i) = cb := ⟨_, rfl⟩; (have htl : (l.take i).length = i := by rw [List.length_take]; omega); (have hcon : Aside0 (slices_Contains_int_int.f 7 (l.take i) (n : Int) = some cb) := ⟨by rw [contains_f _ _ (by omega) 7 (by omega), hcb]⟩); (have HTK := Aside0.mk (show Kd.C (Kd.int .i64) w Al (l.take i).length (l.take i) from Kd.C_take HL.out (by omega))); (have HTL := Aside0.mk (show (l.take i).length ≤ cl by omega)); obtain ⟨i3, hi3, hsz3⟩ := info3b; (have hcut := cut_to 28 3 .i64 Try.underlying28 hi3 Al nl cl (i : Int) (by omega) (by omega) hcl); simp only [Int.toNat_natCast] at hcut; have HT2 := Aside0.mk htl; (have HXX : Aside0 (okAt C S.length l i = !cb) := ⟨by rw [HX.out, hrr, hcb]; simp [hbit]⟩)
       have hcc : ∀ nd, Calls Try.prog 67 #[.slice Al i cl, .int .i64 (n : Int)] (wr.drewN nd) fun e w' => e = .returned (.bool cb) ∧ Drawn0 (wr.drewN nd) w' := fun nd => by
        have h := slices_Contains_int_int.calls 7 Al cl (l.take i) n cb (wr.drewN nd) (Kd.C_drewN (Kd.C_below HTK.out HBr.out) nd) HTL.out hcon.out; rw [HT2.out] at h; exact h
       clear hbit hrr HC62 hr hcb htl
       cases cb with
       | true =>
        have HOBF : Aside0 (ob = false) := ⟨HBD.out HXX.out⟩; subst hAL; (go_wp2_with (first | (go_at_call 72; (with_reducible refine (cool_in.calls (n : Int) 0 ((S.length : Int) - 1) true _ hin.out).mono ?_); rintro e w5 ⟨rfl, ⟨nd5, rfl⟩⟩) | (go_at_call 73; (with_reducible refine (cool_set_has.calls (C : Int) (n : Int) true _ hhas.out).mono ?_); rintro e w6 ⟨rfl, ⟨nd6, rfl⟩⟩) | (go_at_call 67; (with_reducible refine (hcc _).mono ?_); rintro e w7 ⟨rfl, ⟨nd7, rfl⟩⟩))); go_ret; (exact ⟨(by rw [HOBF.out]; rfl), pw_below_drewN HBr.out _⟩)
       | false =>
        subst hAL; (go_wp2_with (first | (go_at_call 72; (with_reducible refine (cool_in.calls (n : Int) 0 ((S.length : Int) - 1) true _ hin.out).mono ?_); rintro e w5 ⟨rfl, ⟨nd5, rfl⟩⟩) | (go_at_call 73; (with_reducible refine (cool_set_has.calls (C : Int) (n : Int) true _ hhas.out).mono ?_); rintro e w6 ⟨rfl, ⟨nd6, rfl⟩⟩) | (go_at_call 67; (with_reducible refine (hcc _).mono ?_); rintro e w7 ⟨rfl, ⟨nd7, rfl⟩⟩))); go_roundg (nl - (i + 1)); (case measure => omega)
        case rel =>
         (refine ⟨i + 1, (congrArg (Value.int .i64) (by first | omega | (rw [wrap64_of _ (by omega) (by omega)]; omega))), by omega, Aside0.mk ?_, Aside0.mk (pw_below_drewN HBr.out _)⟩); intro j hj; (rcases Nat.lt_succ_iff_lt_or_eq.1 hj with h | rfl)
         · exact HOK.out j h
         · exact HXX.out
    · have hin : Aside0 (cool_in.f x 0 ((S.length : Int) - 1) = some false) := ⟨by rw [cool_in_f]; simp; omega⟩
      have HOBF : Aside0 (ob = false) := ⟨HBD.out (by
       rw [HX.out]; (have : (decide (0 ≤ x) && decide (x < (S.length : Int))) = false := by simp; omega)
       rw [this]; rfl)⟩
      subst hAL; clear hr; (go_wp2_with (first | (go_at_call 72; (with_reducible refine (cool_in.calls x 0 ((S.length : Int) - 1) false _ hin.out).mono ?_); rintro e w5 ⟨rfl, ⟨nd5, rfl⟩⟩))); go_ret; (exact ⟨(by rw [HOBF.out]; rfl), pw_below_drewN HBr.out _⟩)
  · have hi' : decide ((i : Int) < (nl : Int)) = false := by simp; omega
    have HOBT : Aside0 (ob = true) := ⟨by
     rw [← HOB.out]; unfold ordB; rw [List.all_eq_true]; intro j hj
     exact HOK.out j (by have := List.mem_range.1 hj; have := HNL.out; omega)⟩
    go_wp2; go_ret; (exact ⟨(by rw [HOBT.out]; rfl), HBr.out⟩)
end Go.Proofs.Ytmkdllaagaimlaa.C
end
section
namespace Go.Proofs.Ytmkdllaagaimlaa.C
open Go.RowKit Go.Proofs.YtmkdllaagaimlaaW.PrintWords Go.Proofs.YtmkdllaagaimlaaW.PrintLast Go.Proofs.YtmkdllaagaimlaaW.PrintMore
set_option linter.unusedVariables false
set_option linter.unusedSimpArgs false
theorem ordB_sites {C m : Nat} {l : List Int} (h : ordB C m l = true) : ∀ x ∈ l, ∃ j : Nat, x = j ∧ j < m := by
 intro x hx; obtain ⟨i, hi, rfl⟩ := List.mem_iff_getElem.1 hx; unfold ordB at h; have h1 := (List.all_eq_true.1 h) i (List.mem_range.2 hi); (have e : rd l (i : Int) = l[i] := by simp [rd, List.getD_eq_getElem?_getD, List.getElem?_eq_getElem hi]); unfold okAt at h1; rw [e] at h1; simp only [Bool.and_eq_true, decide_eq_true_eq] at h1; (exact ⟨l[i].toNat, by omega, by omega⟩)
def againV (H : List S60) (S : List S64) (l o : List Int) : List Int × Int := if o.length ≤ 6 then (match givenO H S l true with | none => ([], 2) | some C => if ordB C S.length o = true then (againL H S C o, 0) else ([], 2)) else ([], 3)
def cool_Again.f (H : List S60) (S : List S64) (l o : List Int) : Option (List Int × Int) := some (againV H S l o)
set_option maxHeartbeats 4000000 in
set_option maxRecDepth 100000 in
theorem cool_Again.calls (A0 : Option Addr) (c0 : Nat) (H : List S60) (A1 : Option Addr) (c1 : Nat) (S : List S64) (A2 : Option Addr) (c2 : Nat) (l : List Int) (A3 : Option Addr) (c3 : Nat) (o : List Int) (r1 : List Int) (r2 : Int) (w : World) (hs : Kd.C k60 w A0 H.length H) (hc0 : H.length ≤ c0) (ss : Kd.C k64 w A1 S.length S) (hc1 : S.length ≤ c1) (hl : Kd.C (Kd.int .i64) w A2 l.length l) (hc2 : l.length ≤ c2) (ho : Kd.C (Kd.int .i64) w A3 o.length o) (hc3 : o.length ≤ c3) (h : cool_Again.f H S l o = some (r1, r2)) :
    Calls Try.prog 26 #[.agg #[.slice A0 H.length c0, .slice A1 S.length c1], .slice A2 l.length c2, .slice A3 o.length c3] w fun e w' => ∃ v : Value, e = .returned (.tuple #[v, .int .i64 r2]) ∧ Kd.R (Kd.int .i64) 3 w' w.heap.size (fun _ => True) v r1 ∧ Below w.heap.size w w' := by
 have hu25 := Try.underlying25; have HS0 := Aside0.mk hs; have HS1 := Aside0.mk ss; have HS2 := Aside0.mk hl; have HS3 := Aside0.mk ho; have HC0 := Aside0.mk hc0; have HC1 := Aside0.mk hc1; have HC2 := Aside0.mk hc2; have HC3 := Aside0.mk hc3; have HR := Aside0.mk (Option.some.inj h); clear hs ss hl ho hc0 hc1 hc2 hc3 h; by_cases h6 : o.length ≤ 6
 case neg =>
  (have hd : decide ((o.length : Int) > 6) = true := by simp; omega); have H6 := Aside0.mk h6; go_enter Try.func26, Try.ntmps26; (go_wp2_with (first | ((with_reducible refine gate_dst (N := 3) rfl ?_); refine box_event ?hg (N := 3) ?hd (cs := #[.slice A0 H.length c0, .slice A1 S.length c1]) (t := 25) ?hr ?_; (case hd => rfl); (case hg => rfl); (case hr => first | (go_simp; done) | (go_simp; rfl)); intro gb hg w8 hbox hb; have HBX := Aside0.mk (show TBox w8 gb A0 H.length c0 A1 S.length c1 from hbox); have HB := Aside0.mk hb; have hc_0 : w8.cell? ⟨gb, 0, none⟩ = some (.slice A0 H.length c0) := (blk_cell hbox 0).trans rfl; have hc_1 : w8.cell? ⟨gb, 1, none⟩ = some (.slice A1 S.length c1) := (blk_cell hbox 1).trans rfl; clear hbox hb hg))); go_ret2; have hr := HR.out; unfold againV at hr; rw [if_neg H6.out] at hr; cases hr; exact ⟨_, rfl, Kd.R_nil _ _ _ _ _, HB.out⟩
 (have hd : decide ((o.length : Int) > 6) = false := by simp; omega); have HO6 := Aside0.mk h6
 cases hgo : givenO H S l true with
 | none =>
  have HGO := Aside0.mk hgo; clear hgo; go_enter Try.func26, Try.ntmps26; (go_wp2_with (first | ((with_reducible refine gate_dst (N := 3) rfl ?_); refine box_event ?hg (N := 3) ?hd (cs := #[.slice A0 H.length c0, .slice A1 S.length c1]) (t := 25) ?hr ?_; (case hd => rfl); (case hg => rfl); (case hr => first | (go_simp; done) | (go_simp; rfl)); intro gb hg w8 hbox hb; have HBX := Aside0.mk (show TBox w8 gb A0 H.length c0 A1 S.length c1 from hbox); have HB := Aside0.mk hb; have hc_0 : w8.cell? ⟨gb, 0, none⟩ = some (.slice A0 H.length c0) := (blk_cell hbox 0).trans rfl; have hc_1 : w8.cell? ⟨gb, 1, none⟩ = some (.slice A1 S.length c1) := (blk_cell hbox 1).trans rfl; clear hbox hb hg) | (go_at_call 60; (with_reducible refine (given_no A0 c0 H A1 c1 S A2 c2 l true  _ ?s1 HC0.out ?s2 HC1.out ?s3 HC2.out HGO.out).mono ?_); (case s1 => exact Kd.C_below HS0.out HB.out); (case s2 => exact Kd.C_below HS1.out HB.out); (case s3 => exact Kd.C_below HS2.out HB.out); rintro e wg ⟨rfl, hb⟩; have HBG := Aside0.mk (below_step HB.out hb); clear hb))); go_ret2; have hr := HR.out; unfold againV at hr; rw [if_pos HO6.out, HGO.out] at hr; cases hr; exact ⟨_, rfl, Kd.R_nil _ _ _ _ _, HBG.out⟩
 | some C =>
  have HGO := Aside0.mk hgo; clear hgo; obtain ⟨gv, gf, gi, gC, gl⟩ := givenO_some HGO.out; obtain ⟨v1, v2, v3, v4, v5, v6⟩ := valid_facts gv; have HS10 := Aside0.mk v4; have HV := Aside0.mk gv; have HCL := Aside0.mk gl; clear gv gf gi gC gl v1 v2 v3 v4 v5 v6; obtain ⟨ob, hob⟩ : ∃ ob, ordB C S.length o = ob := ⟨_, rfl⟩; have HOB := Aside0.mk hob; clear hob
  cases ob with
  | false =>
   go_enter Try.func26, Try.ntmps26; (go_wp2_with (first | ((with_reducible refine gate_dst (N := 3) rfl ?_); refine box_event ?hg (N := 3) ?hd (cs := #[.slice A0 H.length c0, .slice A1 S.length c1]) (t := 25) ?hr ?_; (case hd => rfl); (case hg => rfl); (case hr => first | (go_simp; done) | (go_simp; rfl)); intro gb hg w8 hbox hb; have HBX := Aside0.mk (show TBox w8 gb A0 H.length c0 A1 S.length c1 from hbox); have HB := Aside0.mk hb; have hc_0 : w8.cell? ⟨gb, 0, none⟩ = some (.slice A0 H.length c0) := (blk_cell hbox 0).trans rfl; have hc_1 : w8.cell? ⟨gb, 1, none⟩ = some (.slice A1 S.length c1) := (blk_cell hbox 1).trans rfl; clear hbox hb hg) | (go_at_call 60; (with_reducible refine (given_yes A0 c0 H A1 c1 S A2 c2 l true C _ ?s1 HC0.out ?s2 HC1.out ?s3 HC2.out HGO.out).mono ?_); (case s1 => exact Kd.C_below HS0.out HB.out); (case s2 => exact Kd.C_below HS1.out HB.out); (case s3 => exact Kd.C_below HS2.out HB.out); rintro e wg ⟨B, M, rfl, hB, hM, hT, hb⟩; have HBG := Aside0.mk (below_step HB.out hb); have HLB := Aside0.mk hB; have HLM := Aside0.mk (Nat.le_trans HB.out.size hM); have HT := Aside0.mk hT; clear hB hM hT hb) | (go_at_call 61; (with_reducible refine (ordered.calls B M A0 c0 H A1 c1 S C A3 c3 o _ HT.out.bo HS10.out HCL.out ?s1 HC3.out HO6.out).mono ?_); (case s1 => exact Kd.C_below HS3.out HBG.out); rw [HOB.out]; rintro e wo ⟨rfl, hb⟩; have HBO_ := Aside0.mk hb; clear hb))); go_ret2; have hr := HR.out; unfold againV at hr; rw [if_pos HO6.out, HGO.out] at hr; simp only [HOB.out, Bool.false_eq_true, if_false] at hr; cases hr; exact ⟨_, rfl, Kd.R_nil _ _ _ _ _, below_step HBG.out HBO_.out⟩
  | true =>
   have HOS := Aside0.mk (ordB_sites HOB.out); go_enter Try.func26, Try.ntmps26; (go_wp2_with (first | ((with_reducible refine gate_dst (N := 3) rfl ?_); refine box_event ?hg (N := 3) ?hd (cs := #[.slice A0 H.length c0, .slice A1 S.length c1]) (t := 25) ?hr ?_; (case hd => rfl); (case hg => rfl); (case hr => first | (go_simp; done) | (go_simp; rfl)); intro gb hg w8 hbox hb; have HBX := Aside0.mk (show TBox w8 gb A0 H.length c0 A1 S.length c1 from hbox); have HB := Aside0.mk hb; have hc_0 : w8.cell? ⟨gb, 0, none⟩ = some (.slice A0 H.length c0) := (blk_cell hbox 0).trans rfl; have hc_1 : w8.cell? ⟨gb, 1, none⟩ = some (.slice A1 S.length c1) := (blk_cell hbox 1).trans rfl; clear hbox hb hg) | (go_at_call 60; (with_reducible refine (given_yes A0 c0 H A1 c1 S A2 c2 l true C _ ?s1 HC0.out ?s2 HC1.out ?s3 HC2.out HGO.out).mono ?_); (case s1 => exact Kd.C_below HS0.out HB.out); (case s2 => exact Kd.C_below HS1.out HB.out); (case s3 => exact Kd.C_below HS2.out HB.out); rintro e wg ⟨B, M, rfl, hB, hM, hT, hb⟩; have HBG := Aside0.mk (below_step HB.out hb); have HLB := Aside0.mk hB; have HLM := Aside0.mk (Nat.le_trans HB.out.size hM); have HT := Aside0.mk hT; clear hB hM hT hb) | (go_at_call 61; (with_reducible refine (ordered.calls B M A0 c0 H A1 c1 S C A3 c3 o _ HT.out.bo HS10.out HCL.out ?s1 HC3.out HO6.out).mono ?_); (case s1 => exact Kd.C_below HS3.out HBG.out); rw [HOB.out]; rintro e wo ⟨rfl, hb⟩; have HBO_ := Aside0.mk hb; clear hb) | (go_at_call 62; (with_reducible refine (again.calls w B M A0 c0 H A1 c1 S C A3 c3 o _ HS0.out HS1.out (below_step HBG.out HBO_.out) HLM.out (HT.out.bo.below HBO_.out) (HT.out.mp.below HBO_.out) HV.out HCL.out ?s1 HOS.out HO6.out).mono ?_); (case s1 => exact Kd.C_below HS3.out (below_step HBG.out HBO_.out)); rintro e wa ⟨v, rfl, hr, hmp, hg⟩; have HRA := Aside0.mk (Kd.R_lower hr (below_size (below_step HBG.out HBO_.out))); have HGA := Aside0.mk hg; clear hr hmp hg))); go_ret2; have hr := HR.out; unfold againV at hr; rw [if_pos HO6.out, HGO.out] at hr; simp only [HOB.out, if_true] at hr; cases hr; exact ⟨_, rfl, HRA.out, grown_below2 (below_step HBG.out HBO_.out) HGA.out HLM.out⟩
end Go.Proofs.Ytmkdllaagaimlaa.C
end
section
namespace Go.Proofs.Ytmkdllaagaimlaa.C
open Go.RowKit Go.Proofs.YtmkdllaagaimlaaW.PrintWords Go.Proofs.YtmkdllaagaimlaaW.PrintLast Go.Proofs.YtmkdllaagaimlaaW.PrintMore
set_option linter.unusedVariables false
set_option linter.unusedSimpArgs false
theorem stepA_len (H : List S60) (S : List S64) : ∀ (l : List Int) (st : Nat × Int × List Int), (l.foldl (stepA H S) st).2.2.length = st.2.2.length
  | [], _ => rfl
  | x :: r, st => by
    rw [List.foldl_cons, stepA_len H S r]
    simp only [stepA, lookL_len]
theorem againL_len (H : List S60) (S : List S64) (C : Nat) (l : List Int) : (againL H S C l).length = H.length := by
 unfold againL; rw [stepA_len]; simp only [startA, lookL_len, List.length_replicate]
def inTime (H : List S60) (out : List Int) (h : Nat) : Bool := decide (0 ≤ rd out (h : Int)) && decide (rd out (h : Int) ≤ (rd_T60 H (h : Int)).f1)
def goodB (H : List S60) (S : List S64) (C : Nat) (o : List Int) : Bool := (List.range H.length).all (inTime H (againL H S C o))
set_option maxHeartbeats 4000000 in
set_option maxRecDepth 100000 in
theorem good.calls (w0 : World) (B M : Nat) (A0 : Option Addr) (c0 : Nat) (H : List S60) (A1 : Option Addr) (c1 : Nat) (S : List S64) (C : Nat) (Al : Option Addr) (cl : Nat) (l : List Int) (w : World) (hs : Kd.C k60 w0 A0 H.length H) (ss : Kd.C k64 w0 A1 S.length S) (hlow : Below w0.heap.size w0 w) (hM : w0.heap.size ≤ M)
    (hbo : Bo w B A0 H.length c0 A1 S.length c1 C M) (hmp : Mp w M H S) (hv : validB H S = true) (hC : C < 2 ^ S.length) (hl : Kd.C (Kd.int .i64) w Al l.length l) (hlS : ∀ x ∈ l, ∃ j : Nat, x = j ∧ j < S.length) (hl6 : l.length ≤ 6) :
    Calls Try.prog 66 #[.pointer (some ⟨B, 0, none⟩), .slice Al l.length cl] w fun e w' => e = .returned (.bool (goodB H S C l)) ∧ Mp w' M H S ∧ w.grownBy w' (some M) := by
 have hu94 := Try.underlying94; have hu25 := Try.underlying25; have hag := again.calls w0 B M A0 c0 H A1 c1 S C Al cl l w hs ss hlow hM hbo hmp hv hC hl hlS hl6; obtain ⟨v1, v2, v3, v4, v5, v6⟩ := valid_facts hv; have HS0 := Aside0.mk hs; have HLOW := Aside0.mk hlow; have HM0 := Aside0.mk hM; have HBO := Aside0.mk hbo; have HMI := Aside0.mk hmp; have HH6 := Aside0.mk v2; obtain ⟨L, hL⟩ : ∃ L, againL H S C l = L := ⟨_, rfl⟩; (have HLL : Aside0 (L.length = H.length) := ⟨by rw [← hL]; exact againL_len H S C l⟩); obtain ⟨ob, hob⟩ : ∃ ob, goodB H S C l = ob := ⟨_, rfl⟩; (have HOB : Aside0 (ob = (List.range H.length).all (inTime H L)) := ⟨by rw [← hob, ← hL]; rfl⟩); rw [hob]; rw [hL] at hag; obtain ⟨nl, hnl⟩ : ∃ nl, l.length = nl := ⟨_, rfl⟩; rw [hnl] at hag ⊢; clear hs ss hlow hM hbo hmp hv hC hl hlS hl6 v1 v2 v3 v4 v5 v6 hob hL hnl; go_enter Try.func66, Try.ntmps66; (go_wp2_with (go_at_call 62; (with_reducible refine hag.mono ?_); rintro e wa ⟨v, rfl, hr, hmp, hg⟩; have HRA := Aside0.mk hr; have HMA := Aside0.mk hmp; have HGA := Aside0.mk hg; obtain ⟨Av, cv, rfl, hcv, hrv⟩ := Kd.R_reads hr; have HCV := Aside0.mk hrv; have HCVC := Aside0.mk hcv; clear hr hmp hg hcv hrv)); obtain ⟨nH, hnH⟩ : ∃ nH, L.length = nH := ⟨_, rfl⟩; have HNH := Aside0.mk hnH; (have HHN : Aside0 (H.length = nH) := ⟨by rw [← HLL.out, hnH]⟩); (have hn6 : nH ≤ 6 := by rw [← HHN.out]; exact HH6.out); rw [hnH]; clear hnH hag; (go_loopg [11] nH (fun kq v11 wr => ∃ i : Nat, v11 = .int .i64 i ∧ kq + i = nH ∧ Aside0 (∀ j, j < i → inTime H L j = true) ∧ Aside0 (Below wa.heap.size wa wr))); (case atStart => exact ⟨0, rfl, by omega, Aside0.mk (fun j hj => absurd hj (Nat.not_lt_zero j)), Aside0.mk (Below.refl _ _)⟩)
 case round =>
  obtain ⟨i, rfl, hki, HOK, HBr⟩ := hrel; have HGR : Aside0 (w.grownBy wr (some M)) := ⟨HGA.out.trans (grown_of_below HBr.out (some M))⟩; by_cases hi : i < nH
  · (have hi' : decide ((i : Int) < (nH : Int)) = true := by simp; omega); (have hd0 : decide (0 ≤ (i : Int)) = true := by simp); (obtain ⟨adl, hAL, hxl⟩ := Kd.at_int (Kd.C_below HCV.out HBr.out) (i : Int) (by omega) (by have := HNH.out; omega)); simp only [Int.toNat_natCast] at hxl; obtain ⟨x, hx⟩ : ∃ x, rd L (i : Int) = x := ⟨_, rfl⟩; rw [hx] at hxl
    have NBM : B ≠ M := by
     rintro rfl; obtain ⟨es, cl, h1, _⟩ := HMI.out; have h2 := HBO.out; unfold Bo at h2; rw [h1] at h2; cases h2
    (have hbor := blk_grown HBO.out HGR.out (fun e => NBM (Option.some.inj e))); have hb0 : wr.cell? ⟨B, 0, none⟩ = some (.slice A0 H.length c0) := (blk_cell hbor 0).trans rfl; (obtain ⟨adh, hA0, _, _, hy⟩ := at_T60 (Kd.C_below HS0.out (grown_below2 HLOW.out HGR.out HM0.out)) (i : Int) (by omega) (by have := HHN.out; omega)); simp only [Int.toNat_natCast] at hy; obtain ⟨y, hyy⟩ : ∃ y, (rd_T60 H (i : Int)).f1 = y := ⟨_, rfl⟩; rw [hyy] at hy; obtain ⟨gb_, hgb⟩ : ∃ b, (decide (0 ≤ x) && decide (x ≤ y)) = b := ⟨_, rfl⟩; (have HX : Aside0 (inTime H L i = gb_) := ⟨by unfold inTime; rw [hx, hyy, hgb]⟩); (have hin : Aside0 (cool_in.f x 0 y = some gb_) := ⟨by rw [cool_in_f, hgb]⟩); subst hAL; rw [hA0, HHN.out] at hb0; clear hA0 hx hyy hgb hbor NBM
    cases gb_ with
    | false =>
     have HOBF : Aside0 (ob = false) := ⟨by
      rw [HOB.out, List.all_eq_false]
      exact ⟨i, List.mem_range.2 (by rw [HHN.out]; exact hi), by rw [HX.out]; simp⟩⟩
     (go_wp2_with (first | (go_at_call 72; (with_reducible refine (cool_in.calls x 0 y false _ hin.out).mono ?_); rintro e w5 ⟨rfl, ⟨nd5, rfl⟩⟩))); go_ret; (exact ⟨(by rw [HOBF.out]; rfl), HMA.out.below (pw_below_drewN HBr.out _), grown_drewN HGR.out _⟩)
    | true =>
     (go_wp2_with (first | (go_at_call 72; (with_reducible refine (cool_in.calls x 0 y true _ hin.out).mono ?_); rintro e w5 ⟨rfl, ⟨nd5, rfl⟩⟩))); go_roundg (nH - (i + 1)); (case measure => omega)
     case rel =>
      (refine ⟨i + 1, (congrArg (Value.int .i64) (by first | omega | (rw [wrap64_of _ (by omega) (by omega)]; omega))), by omega, Aside0.mk ?_, Aside0.mk (pw_below_drewN HBr.out _)⟩); intro j hj; (rcases Nat.lt_succ_iff_lt_or_eq.1 hj with h | rfl)
      · exact HOK.out j h
      · exact HX.out
  · have hi' : decide ((i : Int) < (nH : Int)) = false := by simp; omega
    have HOBT : Aside0 (ob = true) := ⟨by
     rw [HOB.out, List.all_eq_true]; intro j hj
     exact HOK.out j (by have := List.mem_range.1 hj; have := HHN.out; omega)⟩
    go_wp2; go_ret; (exact ⟨(by rw [HOBT.out]; rfl), HMA.out.below HBr.out, HGR.out⟩)
end Go.Proofs.Ytmkdllaagaimlaa.C
end
section
namespace Go.Proofs.Ytmkdllaagaimlaa.C
open Go.RowKit Go.Proofs.YtmkdllaagaimlaaW.PrintWords Go.Proofs.YtmkdllaagaimlaaW.PrintLast Go.Proofs.YtmkdllaagaimlaaW.PrintMore
set_option linter.unusedVariables false
set_option linter.unusedSimpArgs false
def searchR (H : List S60) (S : List S64) (C : Nat) (fl : List Int) : Nat → List Int → Option (List Int)
  | 0, o => if goodB H S C o = true then some o else none
  | d + 1, o => fl.findSome? fun x => if x ∈ o then none else searchR H S C fl d (o ++ [x])
structure KR (w0 w w' : World) (g M : Nat) : Prop where
  os : w'.os = w.os
  tape : w'.tape = w.tape
  output : w'.output = w.output
  size : w.heap.size ≤ w'.heap.size
  low : ∀ k, k < w0.heap.size → w'.heap[k]? = w.heap[k]?
  typed : ∀ k, k < w.heap.size → k ≠ g → k ≠ M → (∀ cs, w.heap[k]? ≠ some (.cells cs 3 (0, 0))) → w'.heap[k]? = w.heap[k]?
theorem KR.refl (w0 w : World) (g M : Nat) : KR w0 w w g M := ⟨rfl, rfl, rfl, Nat.le_refl _, fun _ _ => rfl, fun _ _ _ _ _ => rfl⟩
theorem KR.trans {w0 w w1 w2 : World} {g M : Nat} (h : KR w0 w w1 g M) (k : KR w0 w1 w2 g M) : KR w0 w w2 g M :=
  ⟨k.os.trans h.os, k.tape.trans h.tape, k.output.trans h.output, Nat.le_trans h.size k.size, fun i hi => (k.low i hi).trans (h.low i hi), fun i hi h1 h2 h3 => by
    have e := h.typed i hi h1 h2 h3
    exact (k.typed i (Nat.lt_of_lt_of_le hi h.size) h1 h2 (fun cs => by rw [e]; exact h3 cs)).trans e⟩
theorem KR.ofMap {w0 w w1 : World} {g M : Nat} (h : w.grownBy w1 (some M)) (h0 : w0.heap.size ≤ w.heap.size) (hM : w0.heap.size ≤ M) : KR w0 w w1 g M :=
  ⟨h.os, h.tape, h.output, h.size, fun k hk => h.block k (by omega) (fun e => by cases e; omega), fun k hk _ h2 _ => h.block k hk (fun e => h2 (Option.some.inj e))⟩
theorem KR.ofBelow {w0 w w1 : World} {g M : Nat} (h : Below w.heap.size w w1) (h0 : w0.heap.size ≤ w.heap.size) : KR w0 w w1 g M :=
  ⟨h.os, h.tape, h.output, h.size, fun k hk => h.block k (by omega), fun k hk _ _ _ => h.block k hk⟩
theorem KR.ofSet {w0 w : World} {g M : Nat} (hg : w0.heap.size ≤ g) (u : Value) : KR w0 w (w.setCell ⟨g, 0, none⟩ u) g M :=
  ⟨rfl, rfl, rfl, by simp [World.setCell], fun k hk => Below.heap_setCell w ⟨g, 0, none⟩ u k (by show k ≠ g; omega), fun k hk h1 _ _ => Below.heap_setCell w ⟨g, 0, none⟩ u k h1⟩
theorem KR.ofRow {w0 w w1 : World} {g M : Nat} {v : Value} {ok : Nat → Prop} {xs : List Int} (h : w.grownBy w1 v.ownBlock) (hr : Kd.R (Kd.int .i64) 3 w w0.heap.size ok v xs) (h0 : w0.heap.size ≤ w.heap.size) : KR w0 w w1 g M :=
  ⟨h.os, h.tape, h.output, h.size, fun k hk => h.block k (by omega) (fun e => by have := Kd.R_base hr k e.symm; omega), fun k hk _ _ h3 => h.block k hk (fun e => by
    obtain ⟨cs, hc⟩ := Kd.R_typed hr k e.symm
    exact h3 cs hc)⟩
theorem KR.blk {w0 w w1 : World} {g M b t : Nat} {cs : Array Value} (h : KR w0 w w1 g M) (hb : w.heap[b]? = some (.cells cs t (0, 0))) (ht : t ≠ 3) (h1 : b ≠ g) (h2 : b ≠ M) : w1.heap[b]? = some (.cells cs t (0, 0)) :=
  (h.typed b (blk_lt hb) h1 h2 (fun cs' hc => by rw [hb] at hc; cases hc; exact ht rfl)).trans hb
theorem KR.below {w0 w w1 : World} {g M : Nat} (h0 : Below w0.heap.size w0 w) (h : KR w0 w w1 g M) : Below w0.heap.size w0 w1 :=
  ⟨h.os.trans h0.os, h.tape.trans h0.tape, h.output.trans h0.output, Nat.le_trans h0.size h.size, fun k hk => (h.low k hk).trans (h0.block k hk)⟩
theorem mp_grown {w w1 : World} {M base : Nat} {ok : Nat → Prop} {v : Value} {xs : List Int} {H : List S60} {S : List S64} (h : Mp w M H S) (hg : w.grownBy w1 v.ownBlock) (hr : Kd.R (Kd.int .i64) 3 w base ok v xs) : Mp w1 M H S := by
 obtain ⟨es, cl, h1, h2⟩ := h; (refine ⟨es, cl, (hg.block M (blk_lt h1) (fun e => ?_)).trans h1, h2⟩); obtain ⟨cs, hc⟩ := Kd.R_typed hr M e.symm; rw [h1] at hc; cases hc
theorem findSome_at {α : Type} {f : Int → Option α} {l : List Int} {i : Nat} {r : α} (h : ∀ k : Nat, k < i → f (rd l (k : Int)) = none) (hi : i < l.length) (hr : f (rd l (i : Int)) = some r) : l.findSome? f = some r := by
 have e : ∀ k (hk : k < l.length), rd l (k : Int) = l[k] := fun k hk => by simp [rd, List.getD_eq_getElem?_getD, List.getElem?_eq_getElem hk]
 induction l generalizing i with
 | nil => simp at hi
 | cons a t ih =>
  cases i with
  | zero =>
   rw [e 0 hi] at hr; simp only [List.getElem_cons_zero] at hr; rw [List.findSome?_cons, hr]
  | succ i =>
   have h0 := h 0 (Nat.succ_pos i); (rw [e 0 (by simp)] at h0); simp only [List.getElem_cons_zero] at h0; rw [List.findSome?_cons, h0]; (have hs : ∀ k : Nat, rd (a :: t) ((k + 1 : Nat) : Int) = rd t (k : Int) := fun k => by simp [rd, List.getD_eq_getElem?_getD]); (refine ih (i := i) (fun k hk => ?_) (by simpa using hi) (by rw [← hs]; exact hr) (fun k hk => by simp [rd, List.getD_eq_getElem?_getD, List.getElem?_eq_getElem hk])); (rw [← hs]; exact h (k + 1) (by omega))
structure SS (w0 w : World) (B M : Nat) (A0 : Option Addr) (c0 : Nat) (H : List S60) (A1 : Option Addr) (c1 : Nat) (S : List S64) (C : Nat) (g0 g1 g2 g3 : Nat) (Af : Option Addr) (cf : Nat) (fl : List Int) (v : Value) (o : List Int) : Prop where
  low : Below w0.heap.size w0 w
  bo : Bo w B A0 H.length c0 A1 S.length c1 C M
  mp : Mp w M H S
  v0 : Vr w g0 28 v
  v1 : Vr w g1 28 (.slice Af fl.length cf)
  v2 : Vr w g2 88 (.pointer (some ⟨B, 0, none⟩))
  v3 : Vr w g3 27 (.func (.func 65) #[] #[.pointer (some ⟨g0, 0, none⟩), .pointer (some ⟨g1, 0, none⟩), .pointer (some ⟨g2, 0, none⟩), .pointer (some ⟨g3, 0, none⟩)])
  ro : Kd.R (Kd.int .i64) 3 w w0.heap.size (fun _ => True) v o
  n10 : g1 ≠ g0
theorem SS.nb {w0 w : World} {B M : Nat} {A0 : Option Addr} {c0 : Nat} {H : List S60} {A1 : Option Addr} {c1 : Nat} {S : List S64} {C g0 g1 g2 g3 : Nat} {Af : Option Addr} {cf : Nat} {fl : List Int} {v : Value} {o : List Int} (h : SS w0 w B M A0 c0 H A1 c1 S C g0 g1 g2 g3 Af cf fl v o) : B ≠ M := by
 rintro rfl; obtain ⟨es, cl, h1, _⟩ := h.mp; have h2 := h.bo; unfold Bo at h2; rw [h1] at h2; cases h2
theorem SS.step {w0 w w1 : World} {B M : Nat} {A0 : Option Addr} {c0 : Nat} {H : List S60} {A1 : Option Addr} {c1 : Nat} {S : List S64} {C g0 g1 g2 g3 : Nat} {Af : Option Addr} {cf : Nat} {fl : List Int} {v v' : Value} {o o' : List Int} (h : SS w0 w B M A0 c0 H A1 c1 S C g0 g1 g2 g3 Af cf fl v o) (hk : KR w0 w w1 g0 M) (hm : Mp w1 M H S) (h0 : Vr w1 g0 28 v') (hr : Kd.R (Kd.int .i64) 3 w1 w0.heap.size (fun _ => True) v' o') : SS w0 w1 B M A0 c0 H A1 c1 S C g0 g1 g2 g3 Af cf fl v' o' :=
  ⟨hk.below h.low, hk.blk h.bo (by decide) (blk_ne h.bo h.v0 (by decide)) h.nb, hm, h0, hk.blk h.v1 (by decide) h.n10 (ne_map h.v1 h.mp), hk.blk h.v2 (by decide) (blk_ne h.v2 h.v0 (by decide)) (ne_map h.v2 h.mp), hk.blk h.v3 (by decide) (blk_ne h.v3 h.v0 (by decide)) (ne_map h.v3 h.mp), hr, h.n10⟩
set_option maxHeartbeats 4000000 in
set_option maxRecDepth 100000 in
theorem search.calls (w0 : World) (B M : Nat) (A0 : Option Addr) (c0 : Nat) (H : List S60) (A1 : Option Addr) (c1 : Nat) (S : List S64) (C g0 g1 g2 g3 : Nat) (Af : Option Addr) (cf : Nat) (fl : List Int) (hs : Kd.C k60 w0 A0 H.length H) (ss : Kd.C k64 w0 A1 S.length S) (hM : w0.heap.size ≤ M) (hg0 : w0.heap.size ≤ g0) (hv : validB H S = true) (hC : C < 2 ^ S.length) (hfl : Kd.C (Kd.int .i64) w0 Af fl.length fl) (hcf : fl.length ≤ cf) (hflS : ∀ x ∈ fl, ∃ j : Nat, x = j ∧ j < S.length) (hfl6 : fl.length ≤ 6) :
    ∀ (d : Nat) (o : List Int) (v : Value) (w : World), o.length + d = fl.length → (∀ x ∈ o, x ∈ fl) → SS w0 w B M A0 c0 H A1 c1 S C g0 g1 g2 g3 Af cf fl v o →
    Calls Try.prog 65 #[.pointer (some ⟨g0, 0, none⟩), .pointer (some ⟨g1, 0, none⟩), .pointer (some ⟨g2, 0, none⟩), .pointer (some ⟨g3, 0, none⟩)] w fun e w' => ∃ v' : Value, e = .returned (.bool (searchR H S C fl d o).isSome) ∧ SS w0 w' B M A0 c0 H A1 c1 S C g0 g1 g2 g3 Af cf fl v' ((searchR H S C fl d o).getD o) ∧ KR w0 w w' g0 M := by
 have HS0 := Aside0.mk hs; have HS1 := Aside0.mk ss; have HM0 := Aside0.mk hM; have HG0 := Aside0.mk hg0; have HV := Aside0.mk hv; have HC := Aside0.mk hC; have HFL := Aside0.mk hfl; have HCF := Aside0.mk hcf; have HFS := Aside0.mk hflS; have HF6 := Aside0.mk hfl6; clear hs ss hM hg0 hv hC hfl hcf hflS hfl6; intro d
 induction d with
 | zero =>
  intro o v w hod hof hss; have HSS := Aside0.mk hss; obtain ⟨Ao, co, rfl, hco, hro⟩ := Kd.R_reads hss.ro; have h0c := hss.v0.cell; have h1c := hss.v1.cell; have h2c := hss.v2.cell; (have hle : o.length = fl.length := by omega); (have hgd := good.calls w0 B M A0 c0 H A1 c1 S C Ao co o w HS0.out HS1.out hss.low HM0.out hss.bo hss.mp HV.out HC.out hro (fun x hx => HFS.out x (hof x hx)) (by have := HF6.out; omega)); obtain ⟨gb_, hgb⟩ : ∃ b, goodB H S C o = b := ⟨_, rfl⟩; rw [hgb] at hgd; (have HSR : Aside0 (searchR H S C fl 0 o = if gb_ = true then some o else none) := ⟨by unfold searchR; rw [hgb]⟩); rw [hle] at h0c hgd; clear hss hco hro hof hod hgb hle; go_enter Try.func65, Try.ntmps65; go_wp2; go_step3; (go_wp2_with (first | (go_at_call 66; (with_reducible refine hgd.mono ?_); rintro e wg ⟨rfl, hmp, hg⟩; have HMG := Aside0.mk hmp; have HGG := Aside0.mk hg; clear hmp hg))); rw [Exit.noGoto_ret]; go_ret; have hk : KR w0 w wg g0 M := KR.ofMap HGG.out HSS.out.low.size HM0.out; (refine ⟨_, ?_, HSS.out.step hk HMG.out (blk_grown HSS.out.v0 HGG.out (fun e => (ne_map HSS.out.v0 HSS.out.mp) (Option.some.inj e))) ?_, hk⟩)
  · rw [HSR.out]; (cases gb_ <;> rfl)
  · (have : (searchR H S C fl 0 o).getD o = o := by rw [HSR.out]; cases gb_ <;> rfl); rw [this]
    exact RI_keep HSS.out.ro (fun k hk hc => HGG.out.block k hk (fun e => by
     cases e; obtain ⟨cs, hc⟩ := hc; obtain ⟨es, cl, h1, _⟩ := HSS.out.mp; rw [h1] at hc
     cases hc))
 | succ d ih =>
  intro o v w hod hof hss; have HSS := Aside0.mk hss; have HOF := Aside0.mk hof; have HOD := Aside0.mk hod; obtain ⟨Ao, co, hvo, hco, hro⟩ := Kd.R_reads hss.ro; have h0c := hss.v0.cell; have h1c := hss.v1.cell; rw [hvo] at h0c; obtain ⟨no, hno⟩ : ∃ no, o.length = no := ⟨_, rfl⟩; obtain ⟨nf, hnf⟩ : ∃ nf, fl.length = nf := ⟨_, rfl⟩; have HNO := Aside0.mk hno; have HNF := Aside0.mk hnf; (have hlt : (no : Int) ≠ (nf : Int) := by omega); (have hnf6 : nf ≤ 6 := by rw [← hnf]; exact HF6.out); rw [hno] at h0c; rw [hnf] at h1c; (have hld : decide ((no : Int) = (nf : Int)) = false := by simp; omega); (have hlt' : ¬ no = nf := by omega); (have hno6 : no < nf := by omega); clear hss hco hro hod hof hno hnf hvo; go_enter Try.func65, Try.ntmps65; go_wp2; go_step3; go_wp2; go_step3; go_wp2; (have hbeq : ((no : Int) == (nf : Int)) = false := by simp; omega); rw [hbeq]; clear hbeq; (have hsS : searchR H S C fl (d + 1) o = fl.findSome? fun x => if x ∈ o then none else searchR H S C fl d (o ++ [x]) := rfl); have HSR := Aside0.mk hsS; have HI3 := Aside0.mk info3b; clear hsS; (go_loopg [17] nf (fun kq v17 wr => ∃ (i : Nat) (v : Value), v17 = .int .i64 i ∧ kq + i = nf ∧ Aside0 (∀ k : Nat, k < i → (if rd fl (k : Int) ∈ o then none else searchR H S C fl d (o ++ [rd fl (k : Int)])) = none) ∧ Aside0 (SS w0 wr B M A0 c0 H A1 c1 S C g0 g1 g2 g3 Af cf fl v o) ∧ Aside0 (KR w0 w wr g0 M))); (case atStart => exact ⟨0, v, rfl, by omega, Aside0.mk (fun k hk => absurd hk (Nat.not_lt_zero k)), HSS, Aside0.mk (KR.refl _ _ _ _)⟩)
  case round =>
   obtain ⟨i, v, rfl, hki, HNN, SSR, HKR⟩ := hrel; by_cases hi : i < nf
   · (have hi' : decide ((i : Int) < (nf : Int)) = true := by simp; omega); (have hd0 : decide (0 ≤ (i : Int)) = true := by simp); (have hiL : i < fl.length := by rw [HNF.out]; exact hi); (obtain ⟨adl, hAL, hxl⟩ := Kd.at_int (Kd.C_below HFL.out SSR.out.low) (i : Int) (by omega) (by omega)); simp only [Int.toNat_natCast] at hxl; obtain ⟨x, hx⟩ : ∃ x, rd fl (i : Int) = x := ⟨_, rfl⟩; (have HXF := Aside0.mk (show x ∈ fl by rw [← hx]; exact rd_mem hiL)); have HX := Aside0.mk hx; rw [hx] at hxl; obtain ⟨Ao, co, hvo, hco, hro⟩ := Kd.R_reads SSR.out.ro; subst hvo; have HRO := Aside0.mk SSR.out.ro; obtain ⟨cb, hcb⟩ : ∃ cb, decide (x ∈ o) = cb := ⟨_, rfl⟩; (have hcc := slices_Contains_int_int.calls 7 Ao co o x cb wr hro hco (by rw [contains_f o x (by have := HNO.out; omega) 7 (by have := HNO.out; omega), hcb])); have h0r := SSR.out.v0.cell; rw [HNO.out] at hcc h0r HRO; have HCB := Aside0.mk hcb; (have HL1 : Aside0 ((o ++ [x]).length = no + 1) := ⟨by rw [List.length_append, HNO.out]; rfl⟩); subst hAL; clear hx hro hco hcb
     cases cb with
     | true =>
      (go_wp2_with (first | (go_at_call 67; (with_reducible refine hcc.mono ?_); rintro e w7 ⟨rfl, ⟨nd7, rfl⟩⟩))); go_roundg (nf - (i + 1)); (case measure => omega)
      case rel =>
       have hk : KR w0 wr (wr.drewN nd7) g0 M := KR.ofBelow (pw_below_drewN (Below.refl _ _) nd7) SSR.out.low.size; (refine ⟨i + 1, .slice Ao o.length co, (congrArg (Value.int .i64) (by first | omega | (rw [wrap64_of _ (by omega) (by omega)]; omega))), by omega, Aside0.mk ?_, Aside0.mk (SSR.out.step hk SSR.out.mp SSR.out.v0 (Kd.R_drewN SSR.out.ro _)), Aside0.mk (HKR.out.trans hk)⟩); intro k hk; (rcases Nat.lt_succ_iff_lt_or_eq.1 hk with h | rfl)
       · exact HNN.out k h
       · rw [HX.out, if_pos (of_decide_eq_true HCB.out)]
     | false =>
      cases hsr : searchR H S C fl d (o ++ [x]) with
      | some r =>
       have ihx : ∀ (v : Value) (w' : World), SS w0 w' B M A0 c0 H A1 c1 S C g0 g1 g2 g3 (some adl) cf fl v (o ++ [x]) → Calls Try.prog 65 #[.pointer (some ⟨g0, 0, none⟩), .pointer (some ⟨g1, 0, none⟩), .pointer (some ⟨g2, 0, none⟩), .pointer (some ⟨g3, 0, none⟩)] w' fun e w'' => ∃ v' : Value, e = .returned (.bool true) ∧ SS w0 w'' B M A0 c0 H A1 c1 S C g0 g1 g2 g3 (some adl) cf fl v' r ∧ KR w0 w' w'' g0 M := fun v w' h => by
        have h2 := ih (o ++ [x]) v w' (by rw [List.length_append]; have := HOD.out; simp; omega) (fun z hz => by
         rcases List.mem_append.1 hz with h | h
         · exact HOF.out z h
         · rw [List.mem_singleton.1 h]; exact HXF.out) h
        rw [hsr] at h2; exact h2
       have HSX := Aside0.mk hsr; clear hsr; (go_wp2_with (first | (go_at_call 67; (with_reducible refine hcc.mono ?_); rintro e w7 ⟨rfl, ⟨nd7, rfl⟩⟩) | ((with_reducible refine gate_builtin (b := .append) (xs := #[.tmp 24, .tmp 26]) rfl ?_); at_builtin; refine Kd.R_append (Kd.int .i64) (w0 := w0) w0.heap.size rfl (.tmp 24) (.tmp 26) 28 3 (.int .i64 0) 8 rfl Try.underlying28 info3 rfl (by decide) (by omega) (.slice Ao no co) o x [.int .i64 x] (fun _ => True) (fun _ => False) rfl rfl ?aP (fun _ hk => hk.elim) ?aF ?aO ?aB ?aS ?aL ?_; (case aP => exact rfl); (case aB => exact pw_below_drewN SSR.out.low _); (case aF => exact (fun _ _ => trivial)); (case aO => exact Kd.R_drewN HRO.out _); (case aS => exact SSR.out.low.size); (case aL => have := HNO.out; omega); intro v1 w1 ho hb hg hat; obtain ⟨Aq, cq, hv1, hcq, hrq⟩ := Kd.R_reads ho; rw [HL1.out] at hv1; subst hv1; clear hcq hrq; have HO1 := Aside0.mk ho; have HGA := Aside0.mk hg; clear ho hb hg hat; have hnR := Kd.R_ne (Kd.R_drewN HRO.out nd7) (blk_drewN SSR.out.v0 nd7) (by decide); have hV01 := blk_grown (blk_drewN SSR.out.v0 nd7) HGA.out hnR; have hg0c : w1.cell? ⟨g0, 0, none⟩ = some (.slice Ao no co) := (by rw [← HNO.out]; exact (blk_cell hV01 0).trans rfl); have hg0f : w1.frozen? ⟨g0, 0, none⟩ = false := blk_frozen hV01 0; have hMp1 := mp_grown (show Mp (wr.drewN nd7) M H S from SSR.out.mp) HGA.out (Kd.R_drewN HRO.out nd7); have hK1 : KR w0 wr w1 g0 M := (KR.ofBelow (pw_below_drewN (Below.refl _ _) nd7) SSR.out.low.size).trans (KR.ofRow HGA.out (Kd.R_drewN HRO.out nd7) SSR.out.low.size); have hK2 := hK1.trans (KR.ofSet HG0.out (.slice Aq (no + 1) cq)); have HS2 := Aside0.mk (SSR.out.step hK2 (mp_set hMp1 (fun e => ne_map SSR.out.v0 SSR.out.mp e.symm) (.slice Aq (no + 1) cq)) (Vr.set hV01 (.slice Aq (no + 1) cq)) (RI_set HO1.out hV01 (by decide) 0 (.slice Aq (no + 1) cq))); have HK2 := Aside0.mk hK2; have h3c : (w1.setCell ⟨g0, 0, none⟩ (.slice Aq (no + 1) cq)).cell? ⟨g3, 0, none⟩ = some (.func (.func 65) #[] #[.pointer (some ⟨g0, 0, none⟩), .pointer (some ⟨g1, 0, none⟩), .pointer (some ⟨g2, 0, none⟩), .pointer (some ⟨g3, 0, none⟩)]) := HS2.out.v3.cell; clear hnR hV01 hMp1 hK1 hK2) | (go_at_call 65; (with_reducible refine (ihx _ _ HS2.out).mono ?_); rintro e wq ⟨v2, rfl, hss2, hk⟩; have HS3 := Aside0.mk hss2; have HK3 := Aside0.mk (HK2.out.trans hk); skip; clear hss2 hk))); rw [Exit.noGoto_ret]; go_ret
       have hres : searchR H S C fl (d + 1) o = some r := by
        rw [HSR.out]; (exact findSome_at HNN.out hiL (by rw [HX.out, if_neg (of_decide_eq_false HCB.out)]; exact HSX.out))
       refine ⟨v2, by rw [hres]; rfl, by rw [hres]; exact HS3.out, HKR.out.trans HK3.out⟩
      | none =>
       have ihx : ∀ (v : Value) (w' : World), SS w0 w' B M A0 c0 H A1 c1 S C g0 g1 g2 g3 (some adl) cf fl v (o ++ [x]) → Calls Try.prog 65 #[.pointer (some ⟨g0, 0, none⟩), .pointer (some ⟨g1, 0, none⟩), .pointer (some ⟨g2, 0, none⟩), .pointer (some ⟨g3, 0, none⟩)] w' fun e w'' => ∃ v' : Value, e = .returned (.bool false) ∧ SS w0 w'' B M A0 c0 H A1 c1 S C g0 g1 g2 g3 (some adl) cf fl v' (o ++ [x]) ∧ KR w0 w' w'' g0 M := fun v w' h => by
        have h2 := ih (o ++ [x]) v w' (by rw [List.length_append]; have := HOD.out; simp; omega) (fun z hz => by
         rcases List.mem_append.1 hz with h | h
         · exact HOF.out z h
         · rw [List.mem_singleton.1 h]; exact HXF.out) h
        rw [hsr] at h2; exact h2
       have HSX := Aside0.mk hsr; (have hwn : wrap64 (((no + 1 : Nat) : Int) - 1) = (no : Int) := by rw [wrap64_of _ (by omega) (by omega)]; omega); clear hsr; (go_wp2_with (first | (go_at_call 67; (with_reducible refine hcc.mono ?_); rintro e w7 ⟨rfl, ⟨nd7, rfl⟩⟩) | ((with_reducible refine gate_builtin (b := .append) (xs := #[.tmp 24, .tmp 26]) rfl ?_); at_builtin; refine Kd.R_append (Kd.int .i64) (w0 := w0) w0.heap.size rfl (.tmp 24) (.tmp 26) 28 3 (.int .i64 0) 8 rfl Try.underlying28 info3 rfl (by decide) (by omega) (.slice Ao no co) o x [.int .i64 x] (fun _ => True) (fun _ => False) rfl rfl ?aP (fun _ hk => hk.elim) ?aF ?aO ?aB ?aS ?aL ?_; (case aP => exact rfl); (case aB => exact pw_below_drewN SSR.out.low _); (case aF => exact (fun _ _ => trivial)); (case aO => exact Kd.R_drewN HRO.out _); (case aS => exact SSR.out.low.size); (case aL => have := HNO.out; omega); intro v1 w1 ho hb hg hat; obtain ⟨Aq, cq, hv1, hcq, hrq⟩ := Kd.R_reads ho; rw [HL1.out] at hv1; subst hv1; clear hcq hrq; have HO1 := Aside0.mk ho; have HGA := Aside0.mk hg; clear ho hb hg hat; have hnR := Kd.R_ne (Kd.R_drewN HRO.out nd7) (blk_drewN SSR.out.v0 nd7) (by decide); have hV01 := blk_grown (blk_drewN SSR.out.v0 nd7) HGA.out hnR; have hg0c : w1.cell? ⟨g0, 0, none⟩ = some (.slice Ao no co) := (by rw [← HNO.out]; exact (blk_cell hV01 0).trans rfl); have hg0f : w1.frozen? ⟨g0, 0, none⟩ = false := blk_frozen hV01 0; have hMp1 := mp_grown (show Mp (wr.drewN nd7) M H S from SSR.out.mp) HGA.out (Kd.R_drewN HRO.out nd7); have hK1 : KR w0 wr w1 g0 M := (KR.ofBelow (pw_below_drewN (Below.refl _ _) nd7) SSR.out.low.size).trans (KR.ofRow HGA.out (Kd.R_drewN HRO.out nd7) SSR.out.low.size); have hK2 := hK1.trans (KR.ofSet HG0.out (.slice Aq (no + 1) cq)); have HS2 := Aside0.mk (SSR.out.step hK2 (mp_set hMp1 (fun e => ne_map SSR.out.v0 SSR.out.mp e.symm) (.slice Aq (no + 1) cq)) (Vr.set hV01 (.slice Aq (no + 1) cq)) (RI_set HO1.out hV01 (by decide) 0 (.slice Aq (no + 1) cq))); have HK2 := Aside0.mk hK2; have h3c : (w1.setCell ⟨g0, 0, none⟩ (.slice Aq (no + 1) cq)).cell? ⟨g3, 0, none⟩ = some (.func (.func 65) #[] #[.pointer (some ⟨g0, 0, none⟩), .pointer (some ⟨g1, 0, none⟩), .pointer (some ⟨g2, 0, none⟩), .pointer (some ⟨g3, 0, none⟩)]) := HS2.out.v3.cell; clear hnR hV01 hMp1 hK1 hK2) | (go_at_call 65; (with_reducible refine (ihx _ _ HS2.out).mono ?_); rintro e wq ⟨v2, rfl, hss2, hk⟩; have HS3 := Aside0.mk hss2; have HK3 := Aside0.mk (HK2.out.trans hk); obtain ⟨A2, c2, hv2, hc2, hr2⟩ := Kd.R_reads hss2.ro; have hq0 := hss2.v0.cell; have hqf := hss2.v0.frozen; have HV2 := Aside0.mk hv2; have hlen2 : (o ++ [x]).length = no + 1 := (by rw [List.length_append, HNO.out]; rfl); rw [hlen2] at hv2 hc2; subst hv2; have hcut := cut_to 28 3 .i64 Try.underlying28 HI3.out.choose_spec.1 A2 (no + 1) c2 (no : Int) (by omega) (by omega) hc2; simp only [Int.toNat_natCast] at hcut; clear hr2 hlen2; clear hss2 hk))); go_roundg (nf - (i + 1)); (case measure => omega)
       case rel =>
        have hR' : Kd.R (Kd.int .i64) 3 wq w0.heap.size (fun _ => True) (.slice A2 no c2) o := by
         (have h := Kd.R_take HS3.out.ro (m := no) (by rw [HL1.out]; omega)); rwa [List.take_left' HNO.out] at h
        have hk4 := KR.ofSet (w0 := w0) (w := wq) (M := M) HG0.out (.slice A2 no c2); (refine ⟨i + 1, .slice A2 no c2, (congrArg (Value.int .i64) (by first | omega | (rw [wrap64_of _ (by omega) (by omega)]; omega))), by omega, Aside0.mk ?_, Aside0.mk (HS3.out.step hk4 (mp_set HS3.out.mp (fun e => ne_map HS3.out.v0 HS3.out.mp e.symm) _) (Vr.set HS3.out.v0 _) (RI_set hR' HS3.out.v0 (by decide) 0 _)), Aside0.mk (HKR.out.trans (HK3.out.trans hk4))⟩); intro k hk; (rcases Nat.lt_succ_iff_lt_or_eq.1 hk with h | rfl)
        · exact HNN.out k h
        · rw [HX.out, if_neg (of_decide_eq_false HCB.out)]; exact HSX.out
   · (have hi' : decide ((i : Int) < (nf : Int)) = false := by simp; omega); go_wp2; rw [Exit.noGoto_ret]; go_ret
     have hres : searchR H S C fl (d + 1) o = none := by
      rw [HSR.out, List.findSome?_eq_none_iff]; intro x hx; obtain ⟨k, hk, rfl⟩ := List.mem_iff_getElem.1 hx; (have e : rd fl (k : Int) = fl[k] := by simp [rd, List.getD_eq_getElem?_getD, List.getElem?_eq_getElem hk]); (have h := HNN.out k (by have := HNF.out; omega)); rw [e] at h; exact h
     exact ⟨v, by rw [hres]; rfl, by rw [hres]; exact SSR.out, HKR.out⟩
end Go.Proofs.Ytmkdllaagaimlaa.C
end
section
namespace Go.Proofs.Ytmkdllaagaimlaa.C
open Go.RowKit Go.Proofs.YtmkdllaagaimlaaW.PrintWords Go.Proofs.YtmkdllaagaimlaaW.PrintLast Go.Proofs.YtmkdllaagaimlaaW.PrintMore
set_option linter.unusedVariables false
set_option linter.unusedSimpArgs false
def sortedP (l : List Int) (n : Nat) : Bool := (List.range n).all fun i => decide (rd l (i : Int) ≤ rd l ((i + 1 : Nat) : Int))
def sortedB (l : List Int) : Bool := sortedP l (l.length - 1)
theorem less_f (a b : Int) : cmp_Less_int.f a b = some (decide (a < b)) := by
 unfold cmp_Less_int.f cmp_isNaN_int.f; simp
theorem isSorted_l0 (l : List Int) (h10 : l.length ≤ 10) : ∀ (i : Nat) (k : Nat), i < k → i < l.length ∨ i = 0 → slices_IsSorted_int_int.l0 k l (i : Int) = some (sortedP l i) := by
 intro i
 induction i with
 | zero =>
  intro k hk _; (obtain ⟨k, rfl⟩ : ∃ m, k = m + 1 := ⟨k - 1, by omega⟩); simp only [slices_IsSorted_int_int.l0]; (rw [if_neg (by omega)]); rfl
 | succ i ih =>
  intro k hk hl; (obtain ⟨k, rfl⟩ : ∃ m, k = m + 1 := ⟨k - 1, by omega⟩); (have hl' : i + 1 < l.length := by omega); simp only [slices_IsSorted_int_int.l0]; (have hw : wrap64 (((i + 1 : Nat) : Int) - 1) = (i : Int) := by rw [wrap64_of _ (by omega) (by omega)]; omega); (rw [if_pos (by omega), if_pos (by omega), if_pos (by omega), hw, if_pos (by omega), if_pos (by omega), less_f]); simp only [Option.bind_some, decide_eq_true_eq]
  have hs : sortedP l (i + 1) = (sortedP l i && decide (rd l (i : Int) ≤ rd l ((i + 1 : Nat) : Int))) := by
   unfold sortedP; rw [List.range_succ, List.all_append]; simp
  rw [hs]; by_cases hlt : rd l ((i + 1 : Nat) : Int) < rd l (i : Int)
  · rw [if_pos hlt]; (have : decide (rd l (i : Int) ≤ rd l ((i + 1 : Nat) : Int)) = false := decide_eq_false (by omega)); rw [this, Bool.and_false]
  · (rw [if_neg hlt, ih k (by omega) (by omega)]); (have : decide (rd l (i : Int) ≤ rd l ((i + 1 : Nat) : Int)) = true := decide_eq_true (by omega)); rw [this, Bool.and_true]
theorem isSorted_f (l : List Int) (h10 : l.length ≤ 10) : slices_IsSorted_int_int.f 11 l = some (sortedB l) := by
 unfold slices_IsSorted_int_int.f sortedB; (rcases Nat.eq_zero_or_pos l.length with h0 | h0)
 · rw [h0]; (have hw : wrap64 (((0 : Nat) : Int) - 1) = -1 := by rw [wrap64_of _ (by decide) (by decide)]; rfl); rw [hw]; rfl
 · (have hw : wrap64 ((l.length : Int) - 1) = ((l.length - 1 : Nat) : Int) := by rw [wrap64_of _ (by omega) (by omega)]; omega); rw [hw]; (exact isSorted_l0 l h10 _ 11 (by omega) (by omega))
def repairV (H : List S60) (S : List S64) (l fl : List Int) : List Int × Int := if fl.length ≤ 6 then (match givenO H S l true with | none => ([], 2) | some C => if (ordB C S.length fl && sortedB fl) = true then (match searchR H S C fl fl.length [] with | some r => (r, 0) | none => ([], 5)) else ([], 2)) else ([], 3)
def cool_Repair.f (H : List S60) (S : List S64) (l fl : List Int) : Option (List Int × Int) := some (repairV H S l fl)
set_option maxHeartbeats 4000000 in
set_option maxRecDepth 100000 in
theorem cool_Repair.calls (A0 : Option Addr) (c0 : Nat) (H : List S60) (A1 : Option Addr) (c1 : Nat) (S : List S64) (A2 : Option Addr) (c2 : Nat) (l : List Int) (A3 : Option Addr) (c3 : Nat) (fl : List Int) (r1 : List Int) (r2 : Int) (w : World) (hs : Kd.C k60 w A0 H.length H) (hc0 : H.length ≤ c0) (ss : Kd.C k64 w A1 S.length S) (hc1 : S.length ≤ c1) (hl : Kd.C (Kd.int .i64) w A2 l.length l) (hc2 : l.length ≤ c2) (ho : Kd.C (Kd.int .i64) w A3 fl.length fl) (hc3 : fl.length ≤ c3) (h : cool_Repair.f H S l fl = some (r1, r2)) :
    Calls Try.prog 29 #[.agg #[.slice A0 H.length c0, .slice A1 S.length c1], .slice A2 l.length c2, .slice A3 fl.length c3] w fun e w' => ∃ v : Value, e = .returned (.tuple #[v, .int .i64 r2]) ∧ Kd.R (Kd.int .i64) 3 w' w.heap.size (fun _ => True) v r1 ∧ Below w.heap.size w w' := by
 have hu25 := Try.underlying25; (have hmf : ∀ (fn : Fn) (first cap : Array Value) (w : World), (Instr.makeFunc fn first cap).run Try.prog w = .ok (.func fn first cap) w := fun _ _ _ _ => rfl); have HS0 := Aside0.mk hs; have HS1 := Aside0.mk ss; have HS2 := Aside0.mk hl; have HS3 := Aside0.mk ho; have HC0 := Aside0.mk hc0; have HC1 := Aside0.mk hc1; have HC2 := Aside0.mk hc2; have HC3 := Aside0.mk hc3; have HR := Aside0.mk (Option.some.inj h); obtain ⟨nf, hnf⟩ : ∃ nf, fl.length = nf := ⟨_, rfl⟩; have HNF := Aside0.mk hnf; rw [hnf]; clear hs ss hl ho hc0 hc1 hc2 hc3 h hnf; by_cases h6 : nf ≤ 6
 case neg =>
  (have hd : decide ((nf : Int) > 6) = true := by simp; omega); have H6 := Aside0.mk h6; go_enter Try.func29, Try.ntmps29; (go_wp2_with (first | ((with_reducible refine gate_dst (N := 3) rfl ?_); refine box_event ?hg (N := 3) ?hd (cs := #[.slice A0 H.length c0, .slice A1 S.length c1]) (t := 25) ?hr ?_; (case hd => rfl); (case hg => rfl); (case hr => first | (go_simp; done) | (go_simp; rfl)); intro gb hg w8 hbox hb; have HBX := Aside0.mk (show TBox w8 gb A0 H.length c0 A1 S.length c1 from hbox); have HB := Aside0.mk hb; have hc_0 : w8.cell? ⟨gb, 0, none⟩ = some (.slice A0 H.length c0) := (blk_cell hbox 0).trans rfl; have hc_1 : w8.cell? ⟨gb, 1, none⟩ = some (.slice A1 S.length c1) := (blk_cell hbox 1).trans rfl; clear hbox hb hg) | ((with_reducible refine gate_dst (N := 5) rfl ?_); refine box_event ?hg (N := 5) ?hd (cs := #[.slice A3 nf c3]) (t := 28) ?hr ?_; (case hd => rfl); (case hg => rfl); (case hr => first | (go_simp; done) | (go_simp; rfl)); intro g1 hg w9 hbox hb; have V1 := Aside0.mk (show Vr w9 g1 28 (.slice A3 nf c3) from hbox); have hv1 := V1.out.cell; have n0_ := Aside0.mk (below_step HB.out hb); have n1_ := Aside0.mk (HBX.out.below hb); clear HB HBX hc_0 hc_1; have HB := n0_; have HBX := n1_; have hc_0 : w9.cell? ⟨gb, 0, none⟩ = some (.slice A0 H.length c0) := (blk_cell HBX.out 0).trans rfl; have hc_1 : w9.cell? ⟨gb, 1, none⟩ = some (.slice A1 S.length c1) := (blk_cell HBX.out 1).trans rfl; clear n0_ n1_ hbox hb hg))); go_ret2; have hr := HR.out; unfold repairV at hr; (rw [if_neg (by rw [HNF.out]; exact H6.out)] at hr); cases hr; exact ⟨_, rfl, Kd.R_nil _ _ _ _ _, HB.out⟩
 (have hd : decide ((nf : Int) > 6) = false := by simp; omega); have HO6 := Aside0.mk h6
 cases hgo : givenO H S l true with
 | none =>
  have HGO := Aside0.mk hgo; clear hgo; go_enter Try.func29, Try.ntmps29; (go_wp2_with (first | ((with_reducible refine gate_dst (N := 3) rfl ?_); refine box_event ?hg (N := 3) ?hd (cs := #[.slice A0 H.length c0, .slice A1 S.length c1]) (t := 25) ?hr ?_; (case hd => rfl); (case hg => rfl); (case hr => first | (go_simp; done) | (go_simp; rfl)); intro gb hg w8 hbox hb; have HBX := Aside0.mk (show TBox w8 gb A0 H.length c0 A1 S.length c1 from hbox); have HB := Aside0.mk hb; have hc_0 : w8.cell? ⟨gb, 0, none⟩ = some (.slice A0 H.length c0) := (blk_cell hbox 0).trans rfl; have hc_1 : w8.cell? ⟨gb, 1, none⟩ = some (.slice A1 S.length c1) := (blk_cell hbox 1).trans rfl; clear hbox hb hg) | ((with_reducible refine gate_dst (N := 5) rfl ?_); refine box_event ?hg (N := 5) ?hd (cs := #[.slice A3 nf c3]) (t := 28) ?hr ?_; (case hd => rfl); (case hg => rfl); (case hr => first | (go_simp; done) | (go_simp; rfl)); intro g1 hg w9 hbox hb; have V1 := Aside0.mk (show Vr w9 g1 28 (.slice A3 nf c3) from hbox); have hv1 := V1.out.cell; have n0_ := Aside0.mk (below_step HB.out hb); have n1_ := Aside0.mk (HBX.out.below hb); clear HB HBX hc_0 hc_1; have HB := n0_; have HBX := n1_; have hc_0 : w9.cell? ⟨gb, 0, none⟩ = some (.slice A0 H.length c0) := (blk_cell HBX.out 0).trans rfl; have hc_1 : w9.cell? ⟨gb, 1, none⟩ = some (.slice A1 S.length c1) := (blk_cell HBX.out 1).trans rfl; clear n0_ n1_ hbox hb hg) | (go_at_call 60; (with_reducible refine (given_no A0 c0 H A1 c1 S A2 c2 l true  _ ?s1 HC0.out ?s2 HC1.out ?s3 HC2.out HGO.out).mono ?_); (case s1 => exact Kd.C_below HS0.out HB.out); (case s2 => exact Kd.C_below HS1.out HB.out); (case s3 => exact Kd.C_below HS2.out HB.out); rintro e wg ⟨rfl, hb⟩; have HBG := Aside0.mk (below_step HB.out hb); have V1G := Aside0.mk (V1.out.below hb); have hv1g := V1G.out.cell; clear hb))); go_ret2; have hr := HR.out; unfold repairV at hr; (rw [if_pos (by rw [HNF.out]; exact HO6.out), HGO.out] at hr); cases hr; exact ⟨_, rfl, Kd.R_nil _ _ _ _ _, HBG.out.alloc HBG.out.size _⟩
 | some C =>
  have HGO := Aside0.mk hgo; clear hgo; obtain ⟨gv, gf, gi, gC, gl⟩ := givenO_some HGO.out; obtain ⟨v1, v2, v3, v4, v5, v6⟩ := valid_facts gv; have HS10 := Aside0.mk v4; have HV := Aside0.mk gv; have HCL := Aside0.mk gl; clear gv gf gi gC gl v1 v2 v3 v4 v5 v6; obtain ⟨ob, hob⟩ : ∃ ob, ordB C S.length fl = ob := ⟨_, rfl⟩; have HOB := Aside0.mk hob; clear hob; obtain ⟨sb, hsb⟩ : ∃ sb, sortedB fl = sb := ⟨_, rfl⟩; have HSB := Aside0.mk hsb; (have HSF : Aside0 (slices_IsSorted_int_int.f 11 fl = some sb) := ⟨by rw [isSorted_f fl (by have := HNF.out; omega), hsb]⟩); clear hsb
  cases ob with
  | false =>
   go_enter Try.func29, Try.ntmps29; (go_wp2_with (first | ((with_reducible refine gate_dst (N := 3) rfl ?_); refine box_event ?hg (N := 3) ?hd (cs := #[.slice A0 H.length c0, .slice A1 S.length c1]) (t := 25) ?hr ?_; (case hd => rfl); (case hg => rfl); (case hr => first | (go_simp; done) | (go_simp; rfl)); intro gb hg w8 hbox hb; have HBX := Aside0.mk (show TBox w8 gb A0 H.length c0 A1 S.length c1 from hbox); have HB := Aside0.mk hb; have hc_0 : w8.cell? ⟨gb, 0, none⟩ = some (.slice A0 H.length c0) := (blk_cell hbox 0).trans rfl; have hc_1 : w8.cell? ⟨gb, 1, none⟩ = some (.slice A1 S.length c1) := (blk_cell hbox 1).trans rfl; clear hbox hb hg) | ((with_reducible refine gate_dst (N := 5) rfl ?_); refine box_event ?hg (N := 5) ?hd (cs := #[.slice A3 nf c3]) (t := 28) ?hr ?_; (case hd => rfl); (case hg => rfl); (case hr => first | (go_simp; done) | (go_simp; rfl)); intro g1 hg w9 hbox hb; have V1 := Aside0.mk (show Vr w9 g1 28 (.slice A3 nf c3) from hbox); have hv1 := V1.out.cell; have n0_ := Aside0.mk (below_step HB.out hb); have n1_ := Aside0.mk (HBX.out.below hb); clear HB HBX hc_0 hc_1; have HB := n0_; have HBX := n1_; have hc_0 : w9.cell? ⟨gb, 0, none⟩ = some (.slice A0 H.length c0) := (blk_cell HBX.out 0).trans rfl; have hc_1 : w9.cell? ⟨gb, 1, none⟩ = some (.slice A1 S.length c1) := (blk_cell HBX.out 1).trans rfl; clear n0_ n1_ hbox hb hg) | (go_at_call 60; (with_reducible refine (given_yes A0 c0 H A1 c1 S A2 c2 l true C _ ?s1 HC0.out ?s2 HC1.out ?s3 HC2.out HGO.out).mono ?_); (case s1 => exact Kd.C_below HS0.out HB.out); (case s2 => exact Kd.C_below HS1.out HB.out); (case s3 => exact Kd.C_below HS2.out HB.out); rintro e wg ⟨B, M, rfl, hB, hM, hT, hb⟩; have HBG := Aside0.mk (below_step HB.out hb); have HLB := Aside0.mk hB; have HLM := Aside0.mk (Nat.le_trans HB.out.size hM); have HT := Aside0.mk hT; have V1G := Aside0.mk (V1.out.below hb); have hv1g := V1G.out.cell; have hg1l : g1 < wg.heap.size := blk_lt V1G.out; clear hB hM hT hb) | (go_at_call 61; (have hbA := (Below.refl wg.heap.size wg).alloc (Nat.le_refl _) (.cells #[.pointer (some ⟨B, 0, none⟩)] 88 (0, 0))); (have hord := ordered.calls B M A0 c0 H A1 c1 S C A3 c3 fl (wg.alloc (.cells #[.pointer (some ⟨B, 0, none⟩)] 88 (0, 0))) (HT.out.bo.below hbA) HS10.out HCL.out (Kd.C_below HS3.out (below_step HBG.out hbA)) HC3.out (by rw [HNF.out]; exact HO6.out)); rw [HNF.out, HOB.out] at hord; refine hord.mono ?_; rintro e wo ⟨rfl, hb⟩; have HBO_ := Aside0.mk (below_step HBG.out (below_step hbA hb)); have V1O := Aside0.mk (V1G.out.below (below_step hbA hb)); have hv1o := V1O.out.cell; have V2O := Aside0.mk (Vr.below (show Vr (wg.alloc (.cells #[.pointer (some ⟨B, 0, none⟩)] 88 (0, 0))) wg.heap.size 88 (.pointer (some ⟨B, 0, none⟩)) from blk_new wg _) hb); have hv2o := V2O.out.cell; have HTO := Aside0.mk (HT.out.below (below_step hbA hb)); have hg1o : g1 < wo.heap.size := blk_lt V1O.out; have hg2o : wg.heap.size < wo.heap.size := blk_lt V2O.out; have HWG := Aside0.mk HBG.out.size; clear hbA hord hb))); go_ret2; have hr := HR.out; unfold repairV at hr; (rw [if_pos (by rw [HNF.out]; exact HO6.out), HGO.out] at hr); simp only [HOB.out, Bool.false_and, Bool.false_eq_true, if_false] at hr; cases hr; exact ⟨_, rfl, Kd.R_nil _ _ _ _ _, HBO_.out⟩
  | true =>
   cases sb with
   | false =>
    go_enter Try.func29, Try.ntmps29; (go_wp2_with (first | ((with_reducible refine gate_dst (N := 3) rfl ?_); refine box_event ?hg (N := 3) ?hd (cs := #[.slice A0 H.length c0, .slice A1 S.length c1]) (t := 25) ?hr ?_; (case hd => rfl); (case hg => rfl); (case hr => first | (go_simp; done) | (go_simp; rfl)); intro gb hg w8 hbox hb; have HBX := Aside0.mk (show TBox w8 gb A0 H.length c0 A1 S.length c1 from hbox); have HB := Aside0.mk hb; have hc_0 : w8.cell? ⟨gb, 0, none⟩ = some (.slice A0 H.length c0) := (blk_cell hbox 0).trans rfl; have hc_1 : w8.cell? ⟨gb, 1, none⟩ = some (.slice A1 S.length c1) := (blk_cell hbox 1).trans rfl; clear hbox hb hg) | ((with_reducible refine gate_dst (N := 5) rfl ?_); refine box_event ?hg (N := 5) ?hd (cs := #[.slice A3 nf c3]) (t := 28) ?hr ?_; (case hd => rfl); (case hg => rfl); (case hr => first | (go_simp; done) | (go_simp; rfl)); intro g1 hg w9 hbox hb; have V1 := Aside0.mk (show Vr w9 g1 28 (.slice A3 nf c3) from hbox); have hv1 := V1.out.cell; have n0_ := Aside0.mk (below_step HB.out hb); have n1_ := Aside0.mk (HBX.out.below hb); clear HB HBX hc_0 hc_1; have HB := n0_; have HBX := n1_; have hc_0 : w9.cell? ⟨gb, 0, none⟩ = some (.slice A0 H.length c0) := (blk_cell HBX.out 0).trans rfl; have hc_1 : w9.cell? ⟨gb, 1, none⟩ = some (.slice A1 S.length c1) := (blk_cell HBX.out 1).trans rfl; clear n0_ n1_ hbox hb hg) | (go_at_call 60; (with_reducible refine (given_yes A0 c0 H A1 c1 S A2 c2 l true C _ ?s1 HC0.out ?s2 HC1.out ?s3 HC2.out HGO.out).mono ?_); (case s1 => exact Kd.C_below HS0.out HB.out); (case s2 => exact Kd.C_below HS1.out HB.out); (case s3 => exact Kd.C_below HS2.out HB.out); rintro e wg ⟨B, M, rfl, hB, hM, hT, hb⟩; have HBG := Aside0.mk (below_step HB.out hb); have HLB := Aside0.mk hB; have HLM := Aside0.mk (Nat.le_trans HB.out.size hM); have HT := Aside0.mk hT; have V1G := Aside0.mk (V1.out.below hb); have hv1g := V1G.out.cell; have hg1l : g1 < wg.heap.size := blk_lt V1G.out; clear hB hM hT hb) | (go_at_call 61; (have hbA := (Below.refl wg.heap.size wg).alloc (Nat.le_refl _) (.cells #[.pointer (some ⟨B, 0, none⟩)] 88 (0, 0))); (have hord := ordered.calls B M A0 c0 H A1 c1 S C A3 c3 fl (wg.alloc (.cells #[.pointer (some ⟨B, 0, none⟩)] 88 (0, 0))) (HT.out.bo.below hbA) HS10.out HCL.out (Kd.C_below HS3.out (below_step HBG.out hbA)) HC3.out (by rw [HNF.out]; exact HO6.out)); rw [HNF.out, HOB.out] at hord; refine hord.mono ?_; rintro e wo ⟨rfl, hb⟩; have HBO_ := Aside0.mk (below_step HBG.out (below_step hbA hb)); have V1O := Aside0.mk (V1G.out.below (below_step hbA hb)); have hv1o := V1O.out.cell; have V2O := Aside0.mk (Vr.below (show Vr (wg.alloc (.cells #[.pointer (some ⟨B, 0, none⟩)] 88 (0, 0))) wg.heap.size 88 (.pointer (some ⟨B, 0, none⟩)) from blk_new wg _) hb); have hv2o := V2O.out.cell; have HTO := Aside0.mk (HT.out.below (below_step hbA hb)); have hg1o : g1 < wo.heap.size := blk_lt V1O.out; have hg2o : wg.heap.size < wo.heap.size := blk_lt V2O.out; have HWG := Aside0.mk HBG.out.size; clear hbA hord hb) | (go_at_call 64; (have his := slices_IsSorted_int_int.calls 11 A3 c3 fl false wo (Kd.C_below HS3.out HBO_.out) HC3.out HSF.out); rw [HNF.out] at his; refine his.mono ?_; rintro e w8_ ⟨rfl, ⟨ndS, rfl⟩⟩; clear his))); go_ret2; have hr := HR.out; unfold repairV at hr; (rw [if_pos (by rw [HNF.out]; exact HO6.out), HGO.out] at hr); simp only [HOB.out, HSB.out, Bool.and_false, Bool.false_eq_true, if_false] at hr; cases hr; exact ⟨_, rfl, Kd.R_nil _ _ _ _ _, pw_below_drewN HBO_.out _⟩
   | true =>
    go_enter Try.func29, Try.ntmps29; (go_wp2_with (first | ((with_reducible refine gate_dst (N := 3) rfl ?_); refine box_event ?hg (N := 3) ?hd (cs := #[.slice A0 H.length c0, .slice A1 S.length c1]) (t := 25) ?hr ?_; (case hd => rfl); (case hg => rfl); (case hr => first | (go_simp; done) | (go_simp; rfl)); intro gb hg w8 hbox hb; have HBX := Aside0.mk (show TBox w8 gb A0 H.length c0 A1 S.length c1 from hbox); have HB := Aside0.mk hb; have hc_0 : w8.cell? ⟨gb, 0, none⟩ = some (.slice A0 H.length c0) := (blk_cell hbox 0).trans rfl; have hc_1 : w8.cell? ⟨gb, 1, none⟩ = some (.slice A1 S.length c1) := (blk_cell hbox 1).trans rfl; clear hbox hb hg) | ((with_reducible refine gate_dst (N := 5) rfl ?_); refine box_event ?hg (N := 5) ?hd (cs := #[.slice A3 nf c3]) (t := 28) ?hr ?_; (case hd => rfl); (case hg => rfl); (case hr => first | (go_simp; done) | (go_simp; rfl)); intro g1 hg w9 hbox hb; have V1 := Aside0.mk (show Vr w9 g1 28 (.slice A3 nf c3) from hbox); have hv1 := V1.out.cell; have n0_ := Aside0.mk (below_step HB.out hb); have n1_ := Aside0.mk (HBX.out.below hb); clear HB HBX hc_0 hc_1; have HB := n0_; have HBX := n1_; have hc_0 : w9.cell? ⟨gb, 0, none⟩ = some (.slice A0 H.length c0) := (blk_cell HBX.out 0).trans rfl; have hc_1 : w9.cell? ⟨gb, 1, none⟩ = some (.slice A1 S.length c1) := (blk_cell HBX.out 1).trans rfl; clear n0_ n1_ hbox hb hg) | (go_at_call 60; (with_reducible refine (given_yes A0 c0 H A1 c1 S A2 c2 l true C _ ?s1 HC0.out ?s2 HC1.out ?s3 HC2.out HGO.out).mono ?_); (case s1 => exact Kd.C_below HS0.out HB.out); (case s2 => exact Kd.C_below HS1.out HB.out); (case s3 => exact Kd.C_below HS2.out HB.out); rintro e wg ⟨B, M, rfl, hB, hM, hT, hb⟩; have HBG := Aside0.mk (below_step HB.out hb); have HLB := Aside0.mk hB; have HLM := Aside0.mk (Nat.le_trans HB.out.size hM); have HT := Aside0.mk hT; have V1G := Aside0.mk (V1.out.below hb); have hv1g := V1G.out.cell; have hg1l : g1 < wg.heap.size := blk_lt V1G.out; clear hB hM hT hb) | (go_at_call 61; (have hbA := (Below.refl wg.heap.size wg).alloc (Nat.le_refl _) (.cells #[.pointer (some ⟨B, 0, none⟩)] 88 (0, 0))); (have hord := ordered.calls B M A0 c0 H A1 c1 S C A3 c3 fl (wg.alloc (.cells #[.pointer (some ⟨B, 0, none⟩)] 88 (0, 0))) (HT.out.bo.below hbA) HS10.out HCL.out (Kd.C_below HS3.out (below_step HBG.out hbA)) HC3.out (by rw [HNF.out]; exact HO6.out)); rw [HNF.out, HOB.out] at hord; refine hord.mono ?_; rintro e wo ⟨rfl, hb⟩; have HBO_ := Aside0.mk (below_step HBG.out (below_step hbA hb)); have V1O := Aside0.mk (V1G.out.below (below_step hbA hb)); have hv1o := V1O.out.cell; have V2O := Aside0.mk (Vr.below (show Vr (wg.alloc (.cells #[.pointer (some ⟨B, 0, none⟩)] 88 (0, 0))) wg.heap.size 88 (.pointer (some ⟨B, 0, none⟩)) from blk_new wg _) hb); have hv2o := V2O.out.cell; have HTO := Aside0.mk (HT.out.below (below_step hbA hb)); have hg1o : g1 < wo.heap.size := blk_lt V1O.out; have hg2o : wg.heap.size < wo.heap.size := blk_lt V2O.out; have HWG := Aside0.mk HBG.out.size; clear hbA hord hb) | (go_at_call 64; (have his := slices_IsSorted_int_int.calls 11 A3 c3 fl true wo (Kd.C_below HS3.out HBO_.out) HC3.out HSF.out); rw [HNF.out] at his; refine his.mono ?_; rintro e w8_ ⟨rfl, ⟨ndS, rfl⟩⟩; clear his))); have hbo2 := pw_below_drewN (Below.refl wo.heap.size wo) ndS; have hbz1 := hbo2.alloc hbo2.size (.cells #[.slice none 0 0] 28 (0, 0)); have hbz := hbz1.alloc hbz1.size (.cells #[.func (.func 65) #[] #[.pointer (some ⟨wo.heap.size, 0, none⟩), .pointer (some ⟨g1, 0, none⟩), .pointer (some ⟨wg.heap.size, 0, none⟩), .pointer (some ⟨wo.heap.size + 1, 0, none⟩)]] 27 (0, 0)); have h3 := blk_new ((wo.drewN ndS).alloc (.cells #[.slice none 0 0] 28 (0, 0))) (.cells #[.func (.func 65) #[] #[.pointer (some ⟨wo.heap.size, 0, none⟩), .pointer (some ⟨g1, 0, none⟩), .pointer (some ⟨wg.heap.size, 0, none⟩), .pointer (some ⟨wo.heap.size + 1, 0, none⟩)]] 27 (0, 0)); (have hsz : ((wo.drewN ndS).alloc (.cells #[.slice none 0 0] 28 (0, 0))).heap.size = wo.heap.size + 1 := by simp); rw [hsz] at h3; have h0 := blk_alloc (blk_new (wo.drewN ndS) (.cells #[.slice none 0 0] 28 (0, 0))) (.cells #[.func (.func 65) #[] #[.pointer (some ⟨wo.heap.size, 0, none⟩), .pointer (some ⟨g1, 0, none⟩), .pointer (some ⟨wg.heap.size, 0, none⟩), .pointer (some ⟨wo.heap.size + 1, 0, none⟩)]] 27 (0, 0)); (have hsc := search.calls w B M A0 c0 H A1 c1 S C wo.heap.size g1 wg.heap.size (wo.heap.size + 1) A3 c3 fl HS0.out HS1.out HLM.out HBO_.out.size HV.out HCL.out HS3.out HC3.out (ordB_sites HOB.out) (by rw [HNF.out]; exact HO6.out) fl.length [] (.slice none 0 0) _ (by simp) (fun x hx => by cases hx) ⟨below_step HBO_.out hbz, HTO.out.bo.below hbz, HTO.out.mp.below hbz, h0, by rw [HNF.out]; exact V1O.out.below hbz, V2O.out.below hbz, h3, Kd.R_nil _ _ _ _ _, by omega⟩)
    have HR1 := Aside0.mk (show (match searchR H S C fl fl.length [] with | some r => (r, 0) | none => (([] : List Int), (5 : Int))) = (r1, r2) by
     have hr := HR.out; unfold repairV at hr; (rw [if_pos (by rw [HNF.out]; exact HO6.out), HGO.out] at hr); simp only [HOB.out, HSB.out, Bool.and_true, if_true] at hr
     exact hr)
    cases hsr : searchR H S C fl fl.length [] with
    | some r =>
     rw [hsr] at hsc; have hr1 := HR1.out; rw [hsr] at hr1; cases hr1; refine hsc.mono ?_; rintro e ws ⟨v', rfl, hss, hk⟩; obtain ⟨Aq, cq, rfl, hcq, hrq⟩ := Kd.R_reads hss.ro; have HSSX := Aside0.mk hss; have hc0 := hss.v0.cell; simp only [Option.getD_some] at hc0 HSSX; clear hcq hrq hsc h0 h3 hsz hbz hbz1 hbo2 hss hk; go_wp2; go_ret2; exact ⟨_, rfl, HSSX.out.ro, HSSX.out.low⟩
    | none =>
     rw [hsr] at hsc; have hr1 := HR1.out; rw [hsr] at hr1; cases hr1; refine hsc.mono ?_; rintro e ws ⟨v', rfl, hss, hk⟩; have HSSX := Aside0.mk hss; clear hsc h0 h3 hsz hbz hbz1 hbo2 hss hk; go_wp2; go_ret2; exact ⟨_, rfl, Kd.R_nil _ _ _ _ _, HSSX.out.low⟩
end Go.Proofs.Ytmkdllaagaimlaa.C
end
section
namespace Go.Proofs.Ytmkdllaagaimlaa.C
open Go.RowKit Go.Proofs.YtmkdllaagaimlaaW.PrintWords Go.Proofs.YtmkdllaagaimlaaW.PrintLast Go.Proofs.YtmkdllaagaimlaaW.PrintMore
set_option linter.unusedVariables false
set_option linter.unusedSimpArgs false
def combos : List Int → Nat → List (List Int)
  | _, 0 => [[]]
  | [], _ + 1 => []
  | x :: r, k + 1 => (combos r k).map (fun c => x :: c) ++ combos r (k + 1)
def combosM : List Int → Nat → Nat → List Nat
  | _, 0, now => [now]
  | [], _ + 1, _ => []
  | x :: r, k + 1, now => combosM r k (now ||| 2 ^ x.toNat) ++ combosM r (k + 1) now
theorem combosM_eq : ∀ (l : List Int) (k now : Nat), combosM l k now = (combos l k).map fun c => now ||| maskN c
  | [], 0, now => by simp [combosM, combos, maskN]
  | _ :: _, 0, now => by simp [combosM, combos, maskN]
  | [], k + 1, now => by simp [combosM, combos]
  | x :: r, k + 1, now => by
    simp only [combosM, combos, combosM_eq r k, combosM_eq r (k + 1), List.map_append, List.map_map]
    congr 1
    apply List.map_congr_left
    intro c _
    simp only [Function.comp, maskN, Nat.or_assoc]
theorem combosM_step {l : List Int} {i : Nat} (h : i < l.length) (k now : Nat) : combosM (l.drop i) (k + 1) now = combosM (l.drop (i + 1)) k (now ||| 2 ^ (rd l (i : Int)).toNat) ++ combosM (l.drop (i + 1)) (k + 1) now := by
 rw [rd_drop h]; rfl
theorem combosM_end {l : List Int} {i : Nat} (h : l.length ≤ i) (k now : Nat) : combosM (l.drop i) (k + 1) now = [] := by
 rw [List.drop_eq_nil_of_le h]; rfl
theorem combosM_zero (l : List Int) (now : Nat) : combosM l 0 now = [now] := by cases l <;> rfl
def clrM (a b : Nat) : Nat := (BitVec.ofNat 64 a &&& ~~~ BitVec.ofNat 64 b).toNat
theorem clrM_bit {a : Nat} (b j : Nat) (ha : a < 2 ^ 64) : (clrM a b).testBit j = (a.testBit j && !b.testBit j) := by
 unfold clrM; rw [BitVec.testBit_toNat, BitVec.getLsbD_and, BitVec.getLsbD_not, BitVec.getLsbD_ofNat, BitVec.getLsbD_ofNat]; by_cases hj : j < 64
 · simp [hj]
 · (have hz : a.testBit j = false := Nat.testBit_lt_two_pow (Nat.lt_of_lt_of_le ha (Nat.pow_le_pow_right (by decide) (by omega)))); simp [hj, hz]
theorem clrM_lt {a n : Nat} (b : Nat) (ha : a < 2 ^ n) (hn : n ≤ 64) : clrM a b < 2 ^ n := by
 apply Nat.lt_pow_two_of_testBit; intro j hj; (rw [clrM_bit b j (Nat.lt_of_lt_of_le ha (Nat.pow_le_pow_right (by decide) hn))]); (have hz : a.testBit j = false := Nat.testBit_lt_two_pow (Nat.lt_of_lt_of_le ha (Nat.pow_le_pow_right (by decide) hj))); simp [hz]
theorem bits_clrM {a : Nat} (b : Nat) (ha : a < 2 ^ 62) : bits .andNot .i64 (a : Int) (b : Int) = (clrM a b : Int) := by
 (have h := clrM_lt b ha (by decide)); (have : ((clrM a b : Nat) : Int) < 2 ^ 62 := by exact_mod_cast h); simp only [bits, BitVec.ofInt_natCast]; exact wraps_i64 _ (Int.natCast_nonneg _) this
end Go.Proofs.Ytmkdllaagaimlaa.C
end
section
namespace Go.Proofs.Ytmkdllaagaimlaa.C
open Go.RowKit Go.Proofs.YtmkdllaagaimlaaW.PrintWords Go.Proofs.YtmkdllaagaimlaaW.PrintLast Go.Proofs.YtmkdllaagaimlaaW.PrintMore
set_option linter.unusedVariables false
set_option linter.unusedSimpArgs false
def sr6.T : Bool × List (List Nat × List Nat) := (true, [([], []), ([], []), ([1], [1]), ([], []), ([3], [3]), ([], []), ([], []), ([], []), ([6, 7], [6, 7]), ([8], [8]), ([9], [9]), ([5, 10], [5, 10]), ([0, 2, 4, 11], [0, 2, 4, 11]), ([12], [12])])
def sr6.B : List Nat := [0, 0, 2, 0, 8, 0, 0, 0, 192, 448, 960, 2016, 4095, 8191]
theorem sr6.tab : rtab .any (opsOf Try.f94 6) = sr6.T := by kernel_rfl
theorem sr6.bits : waitsOk sr6.T.2 sr6.B = true := by kernel_rfl
attribute [local go_sem] Oper.semAt_some
structure KC (W W' : World) : Prop where
  size : W.heap.size ≤ W'.heap.size
  same : ∀ (k : Nat) (o : Obj), W.heap[k]? = some o → o.isCells = true → W'.heap[k]? = some o
theorem KC.refl (W : World) : KC W W := ⟨Nat.le_refl _, fun _ _ h _ => h⟩
theorem KC.trans {A B C : World} (h : KC A B) (k : KC B C) : KC A C := ⟨Nat.le_trans h.size k.size, fun i o ho hc => k.same i o (h.same i o ho hc) hc⟩
theorem KC.vr {W W' : World} {B t : Nat} {v : Value} (h : KC W W') (hv : Vr W B t v) : Vr W' B t v := h.same B _ hv rfl
theorem KC.drew {A B : World} (h : KC A B.drew) : KC A B := ⟨h.size, h.same⟩
theorem KC.drew1 {A B : World} (h : KC A.drew B) : KC A B := ⟨h.size, h.same⟩
theorem room_of_none {F : Fence} (hd : F.depth = none) (k : Nat) : F.room k := fun d h => by rw [hd] at h; cases h
theorem RoundIn.anyDepth {F : Fence} (hd : F.depth = none) {m m' : Nat} {P : Program} {l : Nat} {f : FuncId} {tmps : Array Value} {assign body : Code} {w : World} {R : Ending → World → Prop}
    (h : RoundIn F m P l f tmps assign body w R) : RoundIn F m' P l f tmps assign body w R := ⟨h.1, fun c cs _ => h.2 c cs (room_of_none hd _)⟩
theorem YieldAt.anyDepth {F : Fence} (hd : F.depth = none) {m : Nat} (m' : Nat) {P : Program} {l : Nat} {args : Array Value} {W : World} {R : Ending → World → Prop} (h : YieldAt F m P l args W R) : YieldAt F m' P l args W R := by
 obtain ⟨fn, tmps, assign, body, hy, hR⟩ := h; exact ⟨fn, tmps, assign, body, hy, RoundIn.anyDepth hd hR⟩
set_option maxHeartbeats 4000000 in
set_option maxRecDepth 100000 in
theorem search94_zero (F : Fence) (hd : F.depth = none) (h94 : F.fn 94) (hro : F.round = none) (l gy gl gs : Nat) (J Jx : List Nat → World → Prop)
    (N : Nat) (hY : ∀ m pre (x : Nat) W, J pre W → pre.length < N → YieldAt F m Try.prog l #[.int .i64 x] W fun e W' => (e = .returned (.bool true) ∧ J (pre ++ [x]) W' ∧ KC W W') ∨ (e = .returned (.bool false) ∧ Jx (pre ++ [x]) W'))
    (n fr now : Nat) (pre : List Nat) (W : World) (hN : pre.length < N) (vy : Vr W gy 126 (.func (.yield l) #[] #[])) (hJ : J pre W) :
    CallsIn F n Try.prog 94 #[.int .i64 fr, .int .i64 0, .int .i64 now, .pointer (some ⟨gy, 0, none⟩), .pointer (some ⟨gl, 0, none⟩), .pointer (some ⟨gs, 0, none⟩)] W fun e W' =>
      (e = .returned (.bool true) ∧ J (pre ++ [now]) W' ∧ KC W W') ∨ (e = .returned (.bool false) ∧ Jx (pre ++ [now]) W') := by
  have hdd : ∀ k : Nat, (F.depth.isSome = true → 1 ≤ k) := fun k h => by rw [hd] at h; cases h
  have hyc := vy.cell
  obtain ⟨fn, tmps, assign, body, hy, hR⟩ := hY (n - 1) pre now W hJ hN
  refine callsIn_of_wp Try.func94 rfl h94 ?_ hro
  simp only [Try.ntmps94, List.size_toArray, List.length_cons, List.length_nil, Nat.reduceAdd, Nat.reduceSub, Array.replicate_succ, Array.replicate_zero, List.push_toArray, List.append_toArray, List.nil_append, List.cons_append]
  gi_wp2_with (first | ((try refine ⟨hdd _, ?_⟩); refine hR.mono ?_; rintro e W2 (⟨rfl, hJ2, hk⟩ | ⟨rfl, hx2⟩)))
  · go_ret
    exact .inl ⟨rfl, hJ2, hk⟩
  · go_ret
    exact .inr ⟨rfl, hx2⟩
theorem KC.cells {W W' : World} (h : KC W W') {a : Addr} {v : Value} (hc : W.cell? a = some v) : W'.cell? a = some v := by
 have hlt := World.block_lt_of_cell? _ _ hc; obtain ⟨o, ho⟩ : ∃ o, W.heap[a.block]? = some o := ⟨_, Array.getElem?_eq_getElem hlt⟩
 cases hco : o.isCells with
 | true => rw [World.cell?_of_block (a := a) ((h.same _ _ ho hco).trans ho.symm)]; exact hc
 | false =>
  exfalso; simp only [World.cell?, ho] at hc; (cases o <;> simp_all [Obj.isCells])
structure SE (W : World) (l gy gl gs : Nat) (AL : Option Addr) (cL : Nat) (L : List Int) : Prop where
  vy : Vr W gy 126 (.func (.yield l) #[] #[])
  vl : Vr W gl 28 (.slice AL L.length cL)
  vs : Vr W gs 127 (.func (.func 94) #[] #[.pointer (some ⟨gy, 0, none⟩), .pointer (some ⟨gl, 0, none⟩), .pointer (some ⟨gs, 0, none⟩)])
  cl : Kd.C (Kd.int .i64) W AL L.length L
theorem SE.keep {W W' : World} {l gy gl gs : Nat} {AL : Option Addr} {cL : Nat} {L : List Int} (h : SE W l gy gl gs AL cL L) (k : KC W W') : SE W' l gy gl gs AL cL L := ⟨k.vr h.vy, k.vr h.vl, k.vr h.vs, CI_cells (fun a v hc => k.cells hc) h.cl⟩
def SQ (J Jx : List Nat → World → Prop) (pre all : List Nat) (W : World) (b : Bool) (W' : World) : Prop := (b = true → J (pre ++ all) W' ∧ KC W W') ∧ (b = false → ∃ q, q <+: all ∧ Jx (pre ++ q) W')
set_option maxHeartbeats 4000000 in
set_option maxRecDepth 100000 in
theorem search94 (l gy gl gs : Nat) (AL : Option Addr) (cL : Nat) (L : List Int) (hL : L.length ≤ 10) (hLb : ∀ x ∈ L, ∃ j : Nat, x = j ∧ j < 10) (J Jx : List Nat → World → Prop)
    (hJd : ∀ pre W m, J pre W → J pre (W.drewN m))
    (N : Nat) (hY : ∀ m pre (x : Nat) W, J pre W → pre.length < N → YieldAt Fence.wide m Try.prog l #[.int .i64 x] W fun e W' => (e = .returned (.bool true) ∧ J (pre ++ [x]) W' ∧ KC W W') ∨ (e = .returned (.bool false) ∧ Jx (pre ++ [x]) W')) :
    ∀ (many fr now : Nat) (pre : List Nat) (W : World), now < 2 ^ 10 → fr ≤ L.length → many ≤ 10 → pre.length + (combosM (L.drop fr) many now).length ≤ N → SE W l gy gl gs AL cL L → J pre W →
    Calls Try.prog 94 #[.int .i64 fr, .int .i64 many, .int .i64 now, .pointer (some ⟨gy, 0, none⟩), .pointer (some ⟨gl, 0, none⟩), .pointer (some ⟨gs, 0, none⟩)] W fun e W' => ∃ b : Bool, e = .returned (.bool b) ∧ SQ J Jx pre (combosM (L.drop fr) many now) W b W' := by
 intro many
 induction many with
 | zero =>
  intro fr now pre W hnow hfr hm hN hse hJ; rw [combosM_zero] at hN ⊢; (refine ((callsIn_wide (n := 5)).1 (search94_zero Fence.wide rfl trivial rfl l gy gl gs J Jx N hY 5 fr now pre W (by simp at hN; omega) hse.vy hJ)).mono ?_); rintro e W' (⟨h1, h2, h3⟩ | ⟨h1, h2⟩)
  · exact ⟨true, h1, (fun _ => ⟨h2, h3⟩), (fun h => by cases h)⟩
  · exact ⟨false, h1, (fun h => by cases h), (fun _ => ⟨_, List.prefix_refl _, h2⟩)⟩
 | succ k ih =>
  intro fr now pre W hnow hfr hm hN hse hJ; have HN := Aside0.mk hN; have HSE := Aside0.mk hse; have HJ := Aside0.mk hJ; have HNOW := Aside0.mk hnow; have HIH0 := Aside0.mk ih; have HJD := Aside0.mk hJd; have HLB := Aside0.mk hLb; (have hk0 : decide (((k + 1 : Nat) : Int) = 0) = false := decide_eq_false (by omega)); (have hk1 : ¬ ((k + 1 : Nat) : Int) = 0 := by omega); obtain ⟨nL, hnL⟩ : ∃ nL, L.length = nL := ⟨_, rfl⟩; have HNL := Aside0.mk hnL; (have hL10 : nL ≤ 10 := by omega); (have hfr' : fr ≤ nL := by omega); clear hse hJ hY ih hnow hJd hLb hnL hL hfr hN; go_enter Try.func94, Try.ntmps94; go_wp2; (go_loopg [10] (nL - fr) (fun kq v10 wr => ∃ (i : Nat) (done : List Nat), v10 = .int .i64 i ∧ kq + i = nL ∧ Aside0 (combosM (L.drop fr) (k + 1) now = done ++ combosM (L.drop i) (k + 1) now) ∧ Aside0 (J (pre ++ done) wr) ∧ Aside0 (KC W wr))); (case atStart => exact ⟨fr, [], rfl, by omega, Aside0.mk rfl, Aside0.mk (by simpa using HJ.out), Aside0.mk (KC.refl W)⟩)
  case round =>
   obtain ⟨i, dn, rfl, hki, HEQ, HJr, HKr⟩ := hrel; have HSr := Aside0.mk (HSE.out.keep HKr.out); have hlc := HSr.out.vl.cell; have hsc := HSr.out.vs.cell; rw [HNL.out] at hlc; by_cases hi : i < nL
   · (have hi' : decide ((i : Int) < (nL : Int)) = true := by simp; omega); (have hd0 : decide (0 ≤ (i : Int)) = true := by simp); (have hiL : i < L.length := by rw [HNL.out]; exact hi); (obtain ⟨adl, hAL, hxl⟩ := Kd.at_int HSr.out.cl (i : Int) (by omega) (by omega)); simp only [Int.toNat_natCast] at hxl; obtain ⟨j, hj, hj10⟩ := HLB.out (rd L (i : Int)) (rd_mem hiL); have HST := combosM_step hiL k now; rw [hj] at hxl HST; obtain ⟨p, hp⟩ : ∃ p, 2 ^ j = p := ⟨_, rfl⟩; (rw [show ((j : Int).toNat) = j from rfl, hp] at HST); (have hsh0 : wrap64 (2 ^ min j 64) = (p : Int) := by rw [← hp]; exact shl_pow2 j (by omega)); (have hp10 : p < 2 ^ 10 := by rw [← hp]; exact Nat.pow_lt_pow_right (by decide) hj10); obtain ⟨nw, hnw⟩ : ∃ nw, now ||| p = nw := ⟨_, rfl⟩; rw [hnw] at HST; (have hbit0 : bits .or .i64 (now : Int) (p : Int) = (nw : Int) := by rw [← hnw]; exact bits_or _ _ (Nat.lt_of_lt_of_le HNOW.out (by decide)) (Nat.lt_of_lt_of_le hp10 (by decide))); (have hnwb : nw < 2 ^ 10 := by rw [← hnw]; exact Nat.or_lt_two_pow HNOW.out hp10); (have H1 := Aside0.mk (show wrap64 ((i : Int) + 1) = (i : Int) + 1 from wrap64_of _ (by omega) (by omega))); (have H2 := Aside0.mk (show wrap64 (k : Int) = (k : Int) from wrap64_of _ (by omega) (by omega))); have H3 := Aside0.mk hsh0; have H4 := Aside0.mk hbit0; have HST' := Aside0.mk HST; (have HIH : Aside0 (Calls Try.prog 94 #[.int .i64 ((i : Int) + 1), .int .i64 k, .int .i64 nw, .pointer (some ⟨gy, 0, none⟩), .pointer (some ⟨gl, 0, none⟩), .pointer (some ⟨gs, 0, none⟩)] wr.drew fun e W' => ∃ b : Bool, e = .returned (.bool b) ∧ SQ J Jx (pre ++ dn) (combosM (L.drop (i + 1)) k nw) wr.drew b W') := ⟨HIH0.out (i + 1) nw (pre ++ dn) wr.drew hnwb (by omega) (by omega) (by have h1 := HN.out; rw [HEQ.out, HST] at h1; simp only [List.length_append] at h1 ⊢; omega) ⟨HSr.out.vy, HSr.out.vl, HSr.out.vs, Kd.C_drew HSr.out.cl⟩ (HJD.out _ _ 1 HJr.out)⟩); subst hAL; clear hj hp hnw hsh0 hbit0 HST hnwb hp10 hj10; go_wp2; have hw1 := H1.out; have hw2 := H2.out; have hsh := H3.out; have hbit := H4.out; (refine start_ (n := 14) (S := fun w' => w'.cell? ⟨gs, 0, none⟩ = some (.func (.func 94) #[] #[.pointer (some ⟨gy, 0, none⟩), .pointer (some ⟨gl, 0, none⟩), .pointer (some ⟨gs, 0, none⟩)]) ∧ w'.cell? ⟨gl, 0, none⟩ = some (.slice (some adl) nL cL) ∧ w'.cell? (adl.add i) = some (.int .i64 j)) (ds := [12]) #[false, false, false, false, false, false, false, false, false, false, false, false, false, false] (by kernel_rfl) rfl rfl ⟨hsc, hlc, hxl⟩ (fun hHeld => ?_); refine with_tabW sr6.tab sr6.bits (fun HT_ HW_ => ?_)); (refine take_ (i := 0) (N := some 23) (v := ?_) (a' := ?_) #[true, false, false, false, false, false, false, false, false, false, false, false, false, false] rfl rfl (take_ofW HT_.out HW_.out (by kernel_rfl)) (fun _ _ _ h => h) (Or.inl ⟨by rfl, ?_⟩) hHeld ?_ ?_); rotate_left
     · rintro w' ⟨s0, s1, s2⟩; go_simp; (with_reducible rfl)
     rotate_left
     · simp only [Act.put, List.setIfInBounds_toArray, List.set_cons_zero, List.set_cons_succ, i64_w, i32_w]; rfl
     (refine pure_ (i := 1) (N := some 24) (v := ?_) (a' := ?_) #[true, true, false, false, false, false, false, false, false, false, false, false, false, false] rfl rfl (any_of HT_.out (by kernel_rfl)) (fun _ _ _ h => h) (Or.inl ⟨by rfl, ?_⟩) ?_ ?_); rotate_left
     · intro w'; go_simp; (with_reducible rfl)
     rotate_left
     · simp only [Act.put, List.setIfInBounds_toArray, List.set_cons_zero, List.set_cons_succ, i64_w, i32_w]; rfl
     (refine pure_ (i := 2) (N := some 25) (v := ?_) (a' := ?_) #[true, true, true, false, false, false, false, false, false, false, false, false, false, false] rfl rfl (any_of HT_.out (by kernel_rfl)) (fun _ _ _ h => h) (Or.inl ⟨by rfl, ?_⟩) ?_ ?_); rotate_left
     · intro w'; go_simp; (with_reducible rfl)
     rotate_left
     · simp only [Act.put, List.setIfInBounds_toArray, List.set_cons_zero, List.set_cons_succ, i64_w, i32_w, hw1]; rfl
     (refine pure_ (i := 3) (N := some 26) (v := ?_) (a' := ?_) #[true, true, true, true, false, false, false, false, false, false, false, false, false, false] rfl rfl (any_of HT_.out (by kernel_rfl)) (fun _ _ _ h => h) (Or.inl ⟨by rfl, ?_⟩) ?_ ?_); rotate_left
     · intro w'; go_simp; (with_reducible rfl)
     rotate_left
     · simp only [Act.put, List.setIfInBounds_toArray, List.set_cons_zero, List.set_cons_succ, i64_w, i32_w]; rfl
     (refine pure_ (i := 4) (N := some 27) (v := ?_) (a' := ?_) #[true, true, true, true, true, false, false, false, false, false, false, false, false, false] rfl rfl (any_of HT_.out (by kernel_rfl)) (fun _ _ _ h => h) (Or.inl ⟨by rfl, ?_⟩) ?_ ?_); rotate_left
     · intro w'; go_simp; (with_reducible rfl)
     rotate_left
     · simp only [Act.put, List.setIfInBounds_toArray, List.set_cons_zero, List.set_cons_succ, i64_w, i32_w, hw2]; rfl
     (refine pure_ (i := 5) (N := some 28) (v := ?_) (a' := ?_) #[true, true, true, true, true, true, false, false, false, false, false, false, false, false] rfl rfl (any_of HT_.out (by kernel_rfl)) (fun _ _ _ h => h) (Or.inl ⟨by rfl, ?_⟩) ?_ ?_); rotate_left
     · intro w'; go_simp; (with_reducible rfl)
     rotate_left
     · simp only [Act.put, List.setIfInBounds_toArray, List.set_cons_zero, List.set_cons_succ, i64_w, i32_w]; rfl
     (refine take_ (i := 6) (N := some 29) (v := ?_) (a' := ?_) #[true, true, true, true, true, true, true, false, false, false, false, false, false, false] rfl rfl (take_ofW HT_.out HW_.out (by kernel_rfl)) (fun _ _ _ h => h) (Or.inl ⟨by rfl, ?_⟩) hHeld ?_ ?_); rotate_left
     · rintro w' ⟨s0, s1, s2⟩; go_simp; (with_reducible rfl)
     rotate_left
     · simp only [Act.put, List.setIfInBounds_toArray, List.set_cons_zero, List.set_cons_succ, i64_w, i32_w]; rfl
     (refine pure_ (i := 7) (N := some 30) (v := ?_) (a' := ?_) #[true, true, true, true, true, true, true, true, false, false, false, false, false, false] rfl rfl (any_of HT_.out (by kernel_rfl)) (fun _ _ _ h => h) (Or.inl ⟨by rfl, ?_⟩) ?_ ?_); rotate_left
     · intro w'; go_simp; (with_reducible rfl)
     rotate_left
     · simp only [Act.put, List.setIfInBounds_toArray, List.set_cons_zero, List.set_cons_succ, i64_w, i32_w]; rfl
     (refine pure_ (i := 8) (N := some 31) (v := ?_) (a' := ?_) #[true, true, true, true, true, true, true, true, true, false, false, false, false, false] rfl rfl (any_of HT_.out (by kernel_rfl)) (fun _ _ _ h => h) (Or.inl ⟨by rfl, ?_⟩) ?_ ?_); rotate_left
     · intro w'; go_simp; (with_reducible rfl)
     rotate_left
     · simp only [Act.put, List.setIfInBounds_toArray, List.set_cons_zero, List.set_cons_succ, i64_w, i32_w]; rfl
     (refine take_ (i := 9) (N := some 32) (v := ?_) (a' := ?_) #[true, true, true, true, true, true, true, true, true, true, false, false, false, false] rfl rfl (take_ofW HT_.out HW_.out (by kernel_rfl)) (fun _ _ _ h => h) (Or.inl ⟨by rfl, ?_⟩) hHeld ?_ ?_); rotate_left
     · rintro w' ⟨s0, s1, s2⟩; go_simp; (with_reducible rfl)
     rotate_left
     · simp only [Act.put, List.setIfInBounds_toArray, List.set_cons_zero, List.set_cons_succ, i64_w, i32_w]; rfl
     (refine pure_ (i := 10) (N := some 33) (v := ?_) (a' := ?_) #[true, true, true, true, true, true, true, true, true, true, true, false, false, false] rfl rfl (any_of HT_.out (by kernel_rfl)) (fun _ _ _ h => h) (Or.inl ⟨by rfl, ?_⟩) ?_ ?_); rotate_left
     · intro w'; go_simp; (with_reducible rfl)
     rotate_left
     · simp only [Act.put, List.setIfInBounds_toArray, List.set_cons_zero, List.set_cons_succ, i64_w, i32_w, hsh]; rfl
     (refine pure_ (i := 11) (N := some 34) (v := ?_) (a' := ?_) #[true, true, true, true, true, true, true, true, true, true, true, true, false, false] rfl rfl (any_of HT_.out (by kernel_rfl)) (fun _ _ _ h => h) (Or.inl ⟨by rfl, ?_⟩) ?_ ?_); rotate_left
     · intro w'; go_simp; (with_reducible rfl)
     rotate_left
     · simp only [Act.put, List.setIfInBounds_toArray, List.set_cons_zero, List.set_cons_succ, i64_w, i32_w, hbit]; rfl
     (refine last_ (i := 12) (N := some 35) #[true, true, true, true, true, true, true, true, true, true, true, true, true, false] rfl rfl (one_of HT_.out (by kernel_rfl)) (by decide) (fun K hK => ?_)); (refine call_ 94 #[.int .i64 ((i : Int) + 1), .int .i64 (k : Int), .int .i64 (nw : Int), .pointer (some ⟨gy, 0, none⟩), .pointer (some ⟨gl, 0, none⟩), .pointer (some ⟨gs, 0, none⟩)] (by rfl) rfl (by go_simp) ?_); (with_reducible refine HIH.out.mono ?_); rintro e W2 ⟨b, rfl, hbb⟩; refine ⟨_, rfl, ?_⟩; refine hK.out _ _ ?_; clear hK K; refine norm_ (a' := ?_) ?_ ?_; rotate_left
     · (show Act.put _ (some 35) _ = _); simp only [Act.put, List.setIfInBounds_toArray, List.set_cons_zero, List.set_cons_succ, i64_w, i32_w]; rfl
     (refine pure_ (i := 13) (N := some 36) (v := ?_) (a' := ?_) #[true, true, true, true, true, true, true, true, true, true, true, true, true, true] rfl rfl (any_of HT_.out (by kernel_rfl)) (fun _ _ _ h => h) (Or.inl ⟨by rfl, ?_⟩) ?_ ?_); rotate_left
     · intro w'; go_simp; (with_reducible rfl)
     rotate_left
     · simp only [Act.put, List.setIfInBounds_toArray, List.set_cons_zero, List.set_cons_succ, i64_w, i32_w]; rfl
     (refine done_ (done_of HT_.out (by kernel_rfl)) ?_); clear hw1 hw2 hsh hbit
     cases b with
     | true =>
      have HBB := Aside0.mk hbb; clear hbb; go_wp2; go_roundg (nL - (i + 1)); (case measure => omega)
      case rel =>
       obtain ⟨hj2, hk2⟩ := HBB.out.1 rfl; (refine ⟨i + 1, dn ++ combosM (L.drop (i + 1)) k nw, (congrArg (Value.int .i64) (by first | omega | (rw [wrap64_of _ (by omega) (by omega)]; omega))), by omega, Aside0.mk ?_, Aside0.mk ?_, Aside0.mk (HKr.out.trans hk2.drew1)⟩)
       · rw [HEQ.out, HST'.out, List.append_assoc]
       · rw [← List.append_assoc]; exact hj2
     | false =>
      have HBB := Aside0.mk hbb; clear hbb; go_wp2; go_ret; (refine ⟨false, rfl, (fun h => by cases h), (fun _ => ?_)⟩); obtain ⟨q, hq, hx⟩ := HBB.out.2 rfl; (refine ⟨dn ++ q, ?_, by rw [← List.append_assoc]; exact hx⟩); rw [HEQ.out, HST'.out]; exact (List.prefix_append_right_inj dn).2 (hq.trans (List.prefix_append _ _))
   · (have hi' : decide ((i : Int) < (nL : Int)) = false := by simp; omega); go_wp2; go_ret; (refine ⟨true, rfl, (fun _ => ⟨?_, HKr.out⟩), (fun h => by cases h)⟩); (rw [HEQ.out, combosM_end (by have := HNL.out; omega), List.append_nil]); exact HJr.out
set_option maxHeartbeats 4000000 in
set_option maxRecDepth 100000 in
theorem sets_stops (n gl gm : Nat) (AL : Option Addr) (cL : Nat) (L : List Int) (hL : L.length ≤ 10) (hLb : ∀ x ∈ L, ∃ j : Nat, x = j ∧ j < 10) (many : Nat) (hm : many ≤ 10) (w : World) (vl : Vr w gl 28 (.slice AL L.length cL)) (vm : Vr w gm 3 (.int .i64 many)) (cl : Kd.C (Kd.int .i64) w AL L.length L) :
    SeqStopsK Fence.wide n Try.prog 93 #[.pointer (some ⟨gl, 0, none⟩), .pointer (some ⟨gm, 0, none⟩)] (fun x : Nat => #[Value.int .i64 x]) KC (fun ys => ys = combosM L many 0) (fun pre => pre <+: combosM L many 0) (combosM L many 0).length w := by
 intro l J Jx W hW hJ hJx hY h0; (have hJa : ∀ pre W1 m, J pre W1 → J pre (W1.drewN m) := fun pre W1 m h => hJ pre W1 _ none h ⟨rfl, rfl, rfl, Nat.le_refl _, fun _ _ _ => rfl⟩ (fun r e => by cases e)); have HJ := Aside0.mk hJ; have HJA := Aside0.mk hJa; (have HY : Aside0 (∀ m pre (x : Nat) W, J pre W → pre.length < (combosM L many 0).length → YieldAt Fence.wide m Try.prog l #[.int .i64 x] W fun e W' => (e = .returned (.bool true) ∧ J (pre ++ [x]) W' ∧ KC W W') ∨ (e = .returned (.bool false) ∧ Jx (pre ++ [x]) W')) := ⟨fun m pre x W1 h1 h2 => YieldAt.anyDepth rfl m (hY pre x W1 h1 h2)⟩); have HLB := Aside0.mk hLb; have HL := Aside0.mk hL; have VL := Aside0.mk (vl.below hW); have VM := Aside0.mk (vm.below hW); have CL := Aside0.mk (Kd.C_below cl hW); have H0 := Aside0.mk h0; have hmc := VM.out.cell; have hgm := blk_lt VM.out; have hgl := blk_lt VL.out; clear hJ hJa hJx hY hLb hL vl vm cl h0 hW; refine callsIn_wide.2 ?_; (show Calls Try.prog 93 #[.func (.yield l) #[] #[], .pointer (some ⟨gl, 0, none⟩), .pointer (some ⟨gm, 0, none⟩)] W _); go_enter Try.func93, Try.ntmps93; (have HB2 : Aside0 (Below W.heap.size W ((W.alloc (.cells #[.func (.yield l) #[] #[]] 126)).alloc (.cells #[.func (.func 94) #[] #[.pointer (some ⟨W.heap.size, 0, none⟩), .pointer (some ⟨gl, 0, none⟩), .pointer (some ⟨W.heap.size + 1, 0, none⟩)]] 127))) := ⟨((Below.refl _ W).alloc (Nat.le_refl _) _).alloc (by simp) _⟩); have HVY : Aside0 (Vr ((W.alloc (.cells #[.func (.yield l) #[] #[]] 126)).alloc (.cells #[.func (.func 94) #[] #[.pointer (some ⟨W.heap.size, 0, none⟩), .pointer (some ⟨gl, 0, none⟩), .pointer (some ⟨W.heap.size + 1, 0, none⟩)]] 127)) W.heap.size 126 (.func (.yield l) #[] #[])) := ⟨blk_alloc (blk_new W _) _⟩; (have HVS : Aside0 (Vr ((W.alloc (.cells #[.func (.yield l) #[] #[]] 126)).alloc (.cells #[.func (.func 94) #[] #[.pointer (some ⟨W.heap.size, 0, none⟩), .pointer (some ⟨gl, 0, none⟩), .pointer (some ⟨W.heap.size + 1, 0, none⟩)]] 127)) (W.heap.size + 1) 127 (.func (.func 94) #[] #[.pointer (some ⟨W.heap.size, 0, none⟩), .pointer (some ⟨gl, 0, none⟩), .pointer (some ⟨W.heap.size + 1, 0, none⟩)])) := ⟨by have := blk_new (W.alloc (.cells #[.func (.yield l) #[] #[]] 126)) (.cells #[.func (.func 94) #[] #[.pointer (some ⟨W.heap.size, 0, none⟩), .pointer (some ⟨gl, 0, none⟩), .pointer (some ⟨W.heap.size + 1, 0, none⟩)]] 127); rwa [World.size_alloc] at this⟩); go_wp2_with fail; (refine (search94 l W.heap.size gl (W.heap.size + 1) AL cL L HL.out HLB.out J Jx HJA.out (combosM L many 0).length HY.out many 0 0 [] _ (by decide) (Nat.zero_le _) hm (by simp) ⟨HVY.out, VL.out.below HB2.out, HVS.out, Kd.C_below CL.out HB2.out⟩ (HJ.out _ _ _ none H0.out ⟨HB2.out.os, HB2.out.tape, HB2.out.output, HB2.out.size, fun k hk _ => HB2.out.block k hk⟩ (fun r e => by cases e))).mono ?_); rintro e W2 ⟨b, rfl, hb⟩; have HB3 := Aside0.mk hb; clear hb; go_wp2; go_end0; refine ⟨⟨_, rfl⟩, ?_⟩
 cases b with
 | true =>
  obtain ⟨h1, _⟩ := HB3.out.1 rfl; (exact .inl ⟨_, rfl, by simpa using h1⟩)
 | false =>
  obtain ⟨q, h1, h2⟩ := HB3.out.2 rfl; (exact .inr ⟨q, by simpa using h1, by simpa using h2⟩)
end Go.Proofs.Ytmkdllaagaimlaa.C
end
section
namespace Go.Proofs.Ytmkdllaagaimlaa.C
open Go.RowKit Go.Proofs.YtmkdllaagaimlaaW.PrintWords Go.Proofs.YtmkdllaagaimlaaW.PrintLast Go.Proofs.YtmkdllaagaimlaaW.PrintMore
set_option linter.unusedVariables false
set_option linter.unusedSimpArgs false
theorem rowsIn_wide {n : Nat} {P : Program} {row : String} {args : Array Value} {w : World} {R : Value → World → Prop} (h : Rows P row args w R) : RowsIn Fence.wide n P row args w R := fun c cs _ => by
  obtain ⟨v, w', hr, hs⟩ := h c cs
  exact ⟨v, w', hr, stepsIn_wide.2 hs⟩
theorem uponIn_of {P : Program} {o : Oper} {a : Act} {K : Act → World → Prop} {Q : Exit → Act → World → Prop} (l n : Nat) {r : Result Next} (h : o.upon P a K Q r) : o.uponIn (Fence.wide.inRound l) n P a K Q r := by
 have hd : (Fence.wide.inRound l).depth.isSome = true → 1 ≤ n := fun h => by cases h
 cases r with
 | ok x w' =>
  cases x with
  | value v => exact h
  | skip => exact h
  | defer d => exact h
  | enter f args => exact ⟨hd, CallsIn.inRound l (callsIn_wide.2 (h.mono fun e w'' he => by cases e <;> exact he))⟩
  | row row args => exact ⟨hd, rowsIn_wide (n := n - 1) h⟩
  | _ => exact h.elim
 | halt x w' =>
  cases x with
  | panic v => exact h
  | _ => exact h.elim
theorem Oper.uponIn_mono_ {F : Fence} {n : Nat} {P : Program} {o : Oper} {a : Act} {K K' : Act → World → Prop} {Q : Exit → Act → World → Prop} {r : Result Next} (h : ∀ a w, K a w → K' a w) (hh : o.uponIn F n P a K Q r) : o.uponIn F n P a K' Q r := by
 cases r with
 | ok x w' =>
  cases x <;> simp only [Oper.uponIn] at hh ⊢ <;>
   first
    | exact h _ _ hh
    | exact ⟨hh.1, CallsIn.mono hh.2 (fun e w'' he => by cases e <;> first | exact h _ _ he | exact he)⟩
    | exact ⟨hh.1, RowsIn.mono hh.2 (fun _ _ he => h _ _ he)⟩
    | exact ⟨hh.1, RoundIn.mono hh.2 (fun e w'' he => by cases e <;> first | exact h _ _ he | exact he)⟩
 | halt x w' => cases x <;> simp only [Oper.uponIn] at hh ⊢ <;> exact hh
theorem wpAnyIn_of {P : Program} {ops : Array Oper} {Q : Exit → Act → World → Prop} {md : Region.Mode} (l n : Nat) (hd : ∀ (i : Nat) (o : Oper), ops[i]? = some o → ∀ c, o.op ≠ .defer c) (hl : ¬ LetsOut Q) :
    ∀ (fuel : Nat) (listed : Array Bool) (a : Act) (w : World), wpAny P md ops Q fuel listed a w → wpAnyIn (Fence.wide.inRound l) n P md ops Q fuel listed a w := by
 intro fuel
 induction fuel with
 | zero => intro listed a w h; exact h
 | succ fuel ih =>
  intro listed a w h; (refine ⟨h.1, fun i hi => ?_⟩); have h2 := h.2 i hi; unfold wpOp at h2; unfold wpOpIn
  cases ho : ops[i]? with
  | none => simp only [ho] at h2 ⊢; exact ih _ _ _ h2
  | some o =>
   simp only [ho] at h2 ⊢; split
   · rename_i hw; rw [if_pos hw] at h2; (rcases h2 with h2 | ⟨_, h2⟩)
     · (refine ⟨fun _ _ => trivial, ?_⟩); rw [Oper.semAt_eq _ _ _ (hd i o ho)]; have h3 := uponIn_of l n h2; refine Oper.uponIn_mono_ ?_ h3; (exact fun a w => ih _ a w)
     · exact absurd h2 hl
   · rename_i hw; rw [if_neg hw] at h2; (exact ⟨fun _ _ => trivial, ih _ _ _ h2⟩)
def noDefer (ops : Array Oper) : Bool := ops.toList.all fun o => match o.op with | .defer _ => false | _ => true
theorem noDefer_spec {ops : Array Oper} (h : noDefer ops = true) (i : Nat) (o : Oper) (ho : ops[i]? = some o) : ∀ c, o.op ≠ .defer c := by
 intro c hc; unfold noDefer at h; rw [List.all_eq_true] at h
 have := h o (by
  rw [← Array.getElem?_toList] at ho
  exact List.mem_of_getElem? ho)
 rw [hc] at this; cases this
theorem start_round {P : Program} {ops : Array Oper} {Q : Exit → Act → World → Prop} {S : World → Prop} {ds : List Nat} {l n0 : Nat} {id n : Nat} {a : Act} {w : World} (hdf : noDefer ops = true) (hlo : ¬ LetsOut Q) (ls : Array Bool) (hm : P.follows .mixedOrders = true) (hn : ops.size = n) (hl : Array.replicate n false = ls) (hS : S w.drew)
    (h : S w.drew → wpAnyLast P .any ops Q S ds n ls a w.drew) : (Code.region id ops true).wpIn (Fence.wide.inRound l) n0 P Q a w := by
 subst hn; subst hl; exact wpIn_region_any hm (wpAnyIn_of l n0 (noDefer_spec hdf) hlo _ _ _ _ (wpAny_of_last _ _ _ _ (h hS)))
theorem memI_small (C : Nat) : (memI C).length ≤ 10 := by
 unfold memI memN; rw [List.length_map]; (exact Nat.le_trans (List.length_filter_le _ _) (by simp))
theorem memI_bd (C : Nat) : ∀ x ∈ memI C, ∃ j : Nat, x = j ∧ j < 10 := by
 intro x hx; unfold memI memN at hx; obtain ⟨j, hj, rfl⟩ := List.mem_map.1 hx; exact ⟨j, rfl, List.mem_range.1 (List.mem_filter.1 hj).1⟩
set_option maxHeartbeats 4000000 in
set_option maxRecDepth 100000 in
theorem sets.calls (C many : Nat) (w : World) (hC : C < 2 ^ 62) :
    Calls Try.prog 69 #[.int .i64 C, .int .i64 many] w fun e w' => ∃ (gl gm : Nat) (AL : Option Addr) (cL : Nat), e = .returned (.func (.func 93) #[] #[.pointer (some ⟨gl, 0, none⟩), .pointer (some ⟨gm, 0, none⟩)]) ∧ Vr w' gl 28 (.slice AL (memI C).length cL) ∧ Vr w' gm 3 (.int .i64 many) ∧ Kd.C (Kd.int .i64) w' AL (memI C).length (memI C) ∧ Below w.heap.size w w' := by
 (have hmf : ∀ (fn : Fn) (first cap : Array Value) (w : World), (Instr.makeFunc fn first cap).run Try.prog w = .ok (.func fn first cap) w := fun _ _ _ _ => rfl); (have HL := Aside0.mk (list_f C hC 11 (by omega))); clear hC; go_enter Try.func69, Try.ntmps69; (go_wp2_with (first | (go_at_call 49; (with_reducible refine (cool_set_list.calls 11 C (memI C) _ HL.out).mono ?_); rintro e w1 ⟨v, rfl, hr, hb⟩; obtain ⟨AL, cL, rfl, hcl, hrl⟩ := Kd.R_reads hr; have HR := Aside0.mk hrl; have HB := Aside0.mk hb; clear hr hb hcl hrl))); go_ret; have hba : Below w1.heap.size w1 (w1.alloc (.cells #[.slice AL (memI C).length cL] 28)) := (Below.refl _ _).alloc (Nat.le_refl _) _; exact ⟨_, _, AL, cL, rfl, blk_new w1 _, (Vr.below (blk_new w _) HB.out).below hba, Kd.C_below HR.out hba, below_step (below_step ((Below.refl _ w).alloc (Nat.le_refl _) _) HB.out) hba⟩
end Go.Proofs.Ytmkdllaagaimlaa.C
end
section
namespace Go.Proofs.Ytmkdllaagaimlaa.C
open Go.RowKit Go.Proofs.YtmkdllaagaimlaaW.PrintWords Go.Proofs.YtmkdllaagaimlaaW.PrintLast Go.Proofs.YtmkdllaagaimlaaW.PrintMore
set_option linter.unusedVariables false
set_option linter.unusedSimpArgs false
attribute [local go_sem] Oper.semAt_some
def bk1.T : Bool × List (List Nat × List Nat) := (true, [([], []), ([], []), ([], []), ([2], [2]), ([0, 1, 3, 3], [0, 1, 3]), ([4], [4]), ([5], [5]), ([5], [5]), ([], []), ([8, 6, 4, 0, 1, 2, 3, 4, 5, 6, 8], [6, 8]), ([7, 9, 0, 1, 2, 3, 4, 5, 6, 7, 8, 9], [7])])
def bk1.B : List Nat := [0, 0, 0, 4, 15, 31, 63, 63, 0, 383, 1023]
theorem bk1.tab : rtab .any (opsOf Try.f38 1) = bk1.T := by kernel_rfl
theorem bk1.bits : waitsOk bk1.T.2 bk1.B = true := by kernel_rfl
def bk13.T : Bool × List (List Nat × List Nat) := (true, [([], []), ([], []), ([], []), ([2], [2]), ([3], [3]), ([4], [4]), ([], []), ([5, 6], [5, 6]), ([1, 7], [1, 7]), ([0, 8], [0, 8]), ([9], [9])])
def bk13.B : List Nat := [0, 0, 0, 4, 12, 28, 0, 124, 254, 511, 1023]
theorem bk13.tab : rtab .any (opsOf Try.f38 13) = bk13.T := by kernel_rfl
theorem bk13.bits : waitsOk bk13.T.2 bk13.B = true := by kernel_rfl
def bk16.T : Bool × List (List Nat × List Nat) := (true, [([], []), ([], []), ([1], [1]), ([0, 2, 0], [0]), ([2, 3, 0, 1, 2, 3], [2]), ([4, 0, 1, 2, 3, 4], [])])
def bk16.B : List Nat := [0, 0, 2, 7, 15, 31]
theorem bk16.tab : rtab .any (opsOf Try.f38 16) = bk16.T := by kernel_rfl
theorem bk16.bits : waitsOk bk16.T.2 bk16.B = true := by kernel_rfl
def mkD (D : Nat) : Deferred := { target := .collected D, args := #[] }
structure Mks (Ds : List Nat) (w : World) : Prop where
  nd : Ds.Nodup
  at_ : ∀ D ∈ Ds, w.heap[D]? = some (.deferred (some []))
structure Shts (Ds : List Nat) (w w' : World) : Prop where
  os : w'.os = w.os
  tape : w'.tape = w.tape
  output : w'.output = w.output
  size : w'.heap.size = w.heap.size
  block : ∀ k, k ∉ Ds → w'.heap[k]? = w.heap[k]?
def postMk (P : Program) (fn : Func) (R : Ending → World → Prop) : Exit → Act → World → Prop
  | .normal, a, w | .ret, a, w => ∃ Ds, a.defers = Ds.map mkD ∧ Mks Ds w ∧ ∃ v, (∀ w', (results fn a.tmps).run P w' = .ok v w') ∧ ∀ w', Shts Ds w w' → R (.returned v) w'
  | _, _, _ => False
theorem leaves_marks {P : Program} {fn : Func} {tmps : Array Value} {R : Ending → World → Prop} {n : Nat} {v : Value} (hv : ∀ w', (results fn tmps).run P w' = .ok v w') : ∀ (Ds : List Nat) (w : World), Mks Ds w → (∀ w', Shts Ds w w' → R (.returned v) w') → LeavesInM Fence.wide n P fn tmps R (Ds.map mkD) .returning w
  | [], w, _, h => ⟨v, hv w, h w ⟨rfl, rfl, rfl, rfl, fun _ _ => rfl⟩⟩
  | D :: Ds, w, hm, h => by
    have hd := hm.at_ D (by simp)
    have hn := List.nodup_cons.1 hm.nd
    refine ⟨by simp, .inl ⟨D, _, rfl, run_takeDeferred hd, ?_⟩⟩
    refine leaves_marks hv Ds _ ⟨hn.2, fun E hE => ?_⟩ fun w' h' => h w' ⟨h'.os, h'.tape, h'.output, ?_, fun k hk => ?_⟩
    · rw [World.putObj_heap_other (fun e => hn.1 (by rw [← e]; exact hE))]
      exact hm.at_ E (by simp [hE])
    · rw [h'.size]; simp [World.putObj]
    · rw [h'.block k (fun e => hk (by simp [e])), World.putObj_heap_other (fun e => hk (by simp [e]))]
theorem calls_of_wp_marks {P : Program} {f : FuncId} {fn : Func} {c : Code} {args : Array Value} {w : World} {R : Ending → World → Prop} (hf : P.funcs[f]? = some fn) (hb : fn.body = some c)
    (h : c.wp P (postMk P fn R) { tmps := args ++ Array.replicate (fn.ntmps - args.size) undef, defers := [] } w) : Calls P f args w R := by
 refine (callsIn_wide (n := 5)).1 (callsIn_of_wp_marks hf hb trivial (wpIn_wide.2 (wp_mono h ?_)) rfl); intro e a w hq
 cases e with
 | normal => obtain ⟨Ds, h1, h2, v, h3, h4⟩ := hq; show LeavesInM _ _ _ _ _ _ a.defers _ _; rw [h1]; exact leaves_marks h3 Ds w h2 h4
 | ret => obtain ⟨Ds, h1, h2, v, h3, h4⟩ := hq; show LeavesInM _ _ _ _ _ _ a.defers _ _; rw [h1]; exact leaves_marks h3 Ds w h2 h4
 | _ => exact hq.elim
structure BI (w0 : World) (B M : Nat) (A0 : Option Addr) (c0 : Nat) (H : List S60) (A1 : Option Addr) (c1 : Nat) (S : List S64) (C g9 g11 h : Nat) (Ds : List Nat) (x : Nat) (W : World) : Prop where
  tn : Tn W B M A0 c0 H A1 c1 S C
  v9 : Vr W g9 88 (.pointer (some ⟨B, 0, none⟩))
  v11 : Vr W g11 3 (.int .i64 h)
  v13 : Vr W (g11 + 1) 84 (.int .i64 x)
  low : Below w0.heap.size w0 W
  mks : Mks Ds W
theorem vr_walk {W W' : World} {B t : Nat} {v : Value} {row : Option Nat} (h : Vr W B t v) (hg : W.grownBy W' row) (hr : ∀ r, row = some r → ∃ o : Obj, W.heap[r]? = some o ∧ o.isCells = false) : Vr W' B t v := by
 (refine (hg.block B (blk_lt h) (fun e => ?_)).trans h); obtain ⟨o, ho, hc⟩ := hr B e.symm; unfold Vr at h; rw [h] at ho; cases ho; cases hc
theorem BI.grown {w0 : World} {B M : Nat} {A0 : Option Addr} {c0 : Nat} {H : List S60} {A1 : Option Addr} {c1 : Nat} {S : List S64} {C g9 g11 h : Nat} {Ds : List Nat} {x : Nat} {W W' : World} {row : Option Nat} {N : Nat} (hI : BI w0 B M A0 c0 H A1 c1 S C g9 g11 h Ds x W) (hg : W.grownBy W' row) (hr : ∀ r, row = some r → N ≤ r ∧ ∃ o : Obj, W.heap[r]? = some o ∧ o.isCells = false) (hM : M < N) (hD : ∀ D ∈ Ds, D < N) (h0 : w0.heap.size ≤ N) : BI w0 B M A0 c0 H A1 c1 S C g9 g11 h Ds x W' := by
 have hr2 : ∀ r, row = some r → ∃ o : Obj, W.heap[r]? = some o ∧ o.isCells = false := fun r e => (hr r e).2
 have hc : ∀ a v, W.cell? a = some v → W'.cell? a = some v := fun a v hv => by
  have hlt := World.block_lt_of_cell? _ _ hv; (rw [World.cell?_of_block (a := a) (hg.block a.block hlt (fun e => ?_))])
  · exact hv
  · obtain ⟨o, ho, hcl⟩ := hr2 a.block e.symm; simp only [World.cell?, ho] at hv; (cases o <;> simp_all [Obj.isCells])
 have hbo : Bo W' B A0 H.length c0 A1 S.length c1 C M := by
  have hb := hI.tn.bo; (refine (hg.block B (blk_lt hb) (fun e => ?_)).trans hb); obtain ⟨o, ho, hcl⟩ := hr2 B e.symm; unfold Bo at hb; rw [hb] at ho; cases ho; cases hcl
 have hmp : Mp W' M H S := by
  obtain ⟨es, cl, h1, h2⟩ := hI.tn.mp; (exact ⟨es, cl, (hg.block M (blk_lt h1) (fun e => by have := (hr M e.symm).1; omega)).trans h1, h2⟩)
 (refine ⟨⟨C60_cells hc hI.tn.hs, C64_cells hc hI.tn.ss, hbo, hmp⟩, vr_walk hI.v9 hg hr2, vr_walk hI.v11 hg hr2, vr_walk hI.v13 hg hr2, ⟨hg.os.trans hI.low.os, hg.tape.trans hI.low.tape, hg.output.trans hI.low.output, Nat.le_trans hI.low.size hg.size, fun k hk => (hg.block k (Nat.lt_of_lt_of_le hk hI.low.size) (fun e => by have := (hr k e.symm).1; omega)).trans (hI.low.block k hk)⟩, ⟨hI.mks.nd, fun D hD' => ?_⟩⟩); have := hI.mks.at_ D hD'; (exact (hg.block D (Array.getElem?_eq_some_iff.1 this).1 (fun e => by have := (hr D e.symm).1; have := hD D hD'; omega)).trans this)
theorem BI.map {w0 : World} {B M : Nat} {A0 : Option Addr} {c0 : Nat} {H : List S60} {A1 : Option Addr} {c1 : Nat} {S : List S64} {C g9 g11 h : Nat} {Ds : List Nat} {x : Nat} {W W' : World} (hI : BI w0 B M A0 c0 H A1 c1 S C g9 g11 h Ds x W) (ht : Tn W' B M A0 c0 H A1 c1 S C) (hg : W.grownBy W' (some M)) (hM : w0.heap.size ≤ M) : BI w0 B M A0 c0 H A1 c1 S C g9 g11 h Ds x W' := by
 (refine ⟨ht, blk_grown hI.v9 hg (fun e => ne_map hI.v9 hI.tn.mp (Option.some.inj e)), blk_grown hI.v11 hg (fun e => ne_map hI.v11 hI.tn.mp (Option.some.inj e)), blk_grown hI.v13 hg (fun e => ne_map hI.v13 hI.tn.mp (Option.some.inj e)), grown_below2 hI.low hg hM, ⟨hI.mks.nd, fun D hD => ?_⟩⟩); have h1 := hI.mks.at_ D hD; (refine (hg.block D (Array.getElem?_eq_some_iff.1 h1).1 (fun e => ?_)).trans h1); cases e; obtain ⟨es, cl, h2, _⟩ := hI.tn.mp; rw [h1] at h2; cases h2
theorem BI.set {w0 : World} {B M : Nat} {A0 : Option Addr} {c0 : Nat} {H : List S60} {A1 : Option Addr} {c1 : Nat} {S : List S64} {C g9 g11 h : Nat} {Ds : List Nat} {x : Nat} {W : World} (hI : BI w0 B M A0 c0 H A1 c1 S C g9 g11 h Ds x W) (hs : Kd.C k60 w0 A0 H.length H) (ss : Kd.C k64 w0 A1 S.length S) (hg : w0.heap.size ≤ g11) (y : Nat) : BI w0 B M A0 c0 H A1 c1 S C g9 g11 h Ds y (W.setCell ⟨g11 + 1, 0, none⟩ (.int .i64 y)) := by
 (have hlow : Below w0.heap.size w0 (W.setCell ⟨g11 + 1, 0, none⟩ (.int .i64 y)) := hI.low.setCell (p := ⟨g11 + 1, 0, none⟩) (by show w0.heap.size ≤ g11 + 1; omega) _); (refine ⟨Tn.far hI.tn hI.v13 (by decide) _ (Kd.C_below hs hlow) (Kd.C_below ss hlow), Vr.far hI.v9 (p := ⟨g11 + 1, 0, none⟩) (blk_ne hI.v9 hI.v13 (by decide)) _, Vr.far hI.v11 (p := ⟨g11 + 1, 0, none⟩) (blk_ne hI.v11 hI.v13 (by decide)) _, hI.v13.set _, hlow, ⟨hI.mks.nd, fun D hD => ?_⟩⟩); have h1 := hI.mks.at_ D hD; (refine (Below.heap_setCell W ⟨g11 + 1, 0, none⟩ _ D (fun e => ?_)).trans h1); have e' : D = g11 + 1 := e; subst e'; have h2 := hI.v13; unfold Vr at h2; rw [h1] at h2; cases h2
theorem KC.ofMap {W W' : World} {M : Nat} {H : List S60} {S : List S64} (hm : Mp W M H S) (hg : W.grownBy W' (some M)) : KC W W' := by
 obtain ⟨es, cl, h1, _⟩ := hm; (refine ⟨hg.size, fun k o ho hc => (hg.block k (Array.getElem?_eq_some_iff.1 ho).1 (fun e => ?_)).trans ho⟩); cases e; rw [h1] at ho; cases ho; cases hc
theorem KC.ofPut {W : World} {l : Nat} {o o' : Obj} (h : W.heap[l]? = some o) (hc : o.isCells = false) : KC W (W.putObj l o') := by
 (refine ⟨by simp [World.putObj], fun k o2 hk hk2 => ?_⟩); (rw [World.putObj_heap_other (fun e => ?_)])
 · exact hk
 · subst e; rw [h] at hk; cases hk; rw [hc] at hk2; cases hk2
theorem find_break {α : Type} {p : α → Bool} {f : Nat → List α} {m n : Nat} {q : List α} {x : α} {r : List α} (h1 : ∀ k, k < m → ∀ c ∈ f k, p c = false) (hm : m < n) (h2 : f m = q ++ x :: r) (h3 : ∀ c ∈ q, p c = false) (h4 : p x = true) : ((List.range n).flatMap f).find? p = some x := by
 rw [List.find?_eq_some_iff_append]; refine ⟨h4, (List.range m).flatMap f ++ q, r ++ (List.range' (m + 1) (n - (m + 1))).flatMap f, ?_, ?_⟩
 · have e : List.range n = List.range m ++ m :: List.range' (m + 1) (n - (m + 1)) := by
    have h := List.range'_append_1 (s := 0) (m := m) (n := n - m); (rw [List.range_eq_range', List.range_eq_range', ← List.range'_succ, show n - (m + 1) + 1 = n - m by omega]); (rw [Nat.zero_add, show m + (n - m) = n by omega] at h); exact h.symm
   rw [e, List.flatMap_append, List.flatMap_cons, h2]; simp
 · intro a ha; (rcases List.mem_append.1 ha with ha | ha)
   · obtain ⟨k, hk, hc⟩ := List.mem_flatMap.1 ha; rw [h1 k (List.mem_range.1 hk) a hc]; rfl
   · rw [h3 a ha]; rfl
theorem find_none {α : Type} {p : α → Bool} {f : Nat → List α} {n : Nat} (h1 : ∀ k, k < n → ∀ c ∈ f k, p c = false) : ((List.range n).flatMap f).find? p = none := by
 rw [List.find?_eq_none]; intro a ha; obtain ⟨k, hk, hc⟩ := List.mem_flatMap.1 ha; rw [h1 k (List.mem_range.1 hk) a hc]; simp
theorem combosM_lt {l : List Int} (hl : ∀ x ∈ l, ∃ j : Nat, x = j ∧ j < 10) : ∀ {k now : Nat}, now < 2 ^ 10 → ∀ {x : Nat}, x ∈ combosM l k now → x < 2 ^ 10 := by
 induction l with
 | nil =>
  intro k now hn x hx
  cases k with
  | zero => simp only [combosM, List.mem_singleton] at hx; omega
  | succ k => simp [combosM] at hx
 | cons a r ih =>
  intro k now hn x hx
  cases k with
  | zero => simp only [combosM, List.mem_singleton] at hx; omega
  | succ k =>
   simp only [combosM, List.mem_append] at hx; (have hr : ∀ x ∈ r, ∃ j : Nat, x = j ∧ j < 10 := fun x hx => hl x (by simp [hx])); (obtain ⟨j, rfl, hj⟩ := hl a (by simp)); (rcases hx with hx | hx)
   · exact ih hr (Nat.or_lt_two_pow hn (Nat.pow_lt_pow_right (by decide) hj)) hx
   · exact ih hr hn hx
theorem shts_below {Ds : List Nat} {w0 w w' : World} (h : Below w0.heap.size w0 w) (hs : Shts Ds w w') (hD : ∀ D ∈ Ds, w0.heap.size ≤ D) : Below w0.heap.size w0 w' :=
  ⟨hs.os.trans h.os, hs.tape.trans h.tape, hs.output.trans h.output, by rw [hs.size]; exact h.size, fun k hk => (hs.block k (fun hm => by have := hD k hm; omega)).trans (h.block k hk)⟩
theorem RI_shts {Ds : List Nat} {w w1 : World} {base : Nat} {ok : Nat → Prop} {v : Value} {xs : List Int} (h : Kd.R (Kd.int .i64) 3 w base ok v xs) (hm : Mks Ds w) (hs : Shts Ds w w1) : Kd.R (Kd.int .i64) 3 w1 base ok v xs := RI_keep h fun k hk hc => hs.block k (fun hD => by
  obtain ⟨cs, hc⟩ := hc
  rw [hm.at_ k hD] at hc
  cases hc)
theorem Mks.nil (w : World) : Mks [] w := ⟨List.nodup_nil, fun _ h => by cases h⟩
theorem Shts.nil {w w' : World} (h : Shts [] w w') {n : Nat} : Below n w w' := ⟨h.os, h.tape, h.output, Nat.le_of_eq h.size.symm, fun k _ => h.block k (by simp)⟩
def breakL (H : List S60) (S : List S64) (C h n : Nat) : List Int := memI ((((List.range (n + 1)).flatMap fun m => combosM (memI C) m 0).find? fun c => !levelB H S h 0 (clrM C c)).getD 0)
def breakV (H : List S60) (S : List S64) (l : List Int) (n : Int) : Int × List Int × Int := match givenO H S l (decide (0 ≤ n) && decide (n ≤ 3)) with | none => (0, [], 2) | some C => (match brk H S n.toNat C with | none => (0, [], 6) | some h => (h, breakL H S C h n.toNat, 0))
def cool_Break.f (H : List S60) (S : List S64) (l : List Int) (n : Int) : Option (Int × List Int × Int) := some (breakV H S l n)
set_option maxHeartbeats 4000000 in
set_option maxRecDepth 100000 in
theorem cool_Break.calls (A0 : Option Addr) (c0 : Nat) (H : List S60) (A1 : Option Addr) (c1 : Nat) (S : List S64) (A2 : Option Addr) (c2 : Nat) (l : List Int) (a2 : Int) (r1 : Int) (r2 : List Int) (r3 : Int) (w : World) (hs : Kd.C k60 w A0 H.length H) (hc0 : H.length ≤ c0) (ss : Kd.C k64 w A1 S.length S) (hc1 : S.length ≤ c1) (hl : Kd.C (Kd.int .i64) w A2 l.length l) (hc2 : l.length ≤ c2) (h : cool_Break.f H S l a2 = some (r1, r2, r3)) :
    Calls Try.prog 38 #[.agg #[.slice A0 H.length c0, .slice A1 S.length c1], .slice A2 l.length c2, .int .i64 a2] w fun e w' => ∃ v : Value, e = .returned (.tuple #[.int .i64 r1, v, .int .i64 r3]) ∧ Kd.R (Kd.int .i64) 3 w' w.heap.size (fun _ => True) v r2 ∧ Below w.heap.size w w' := by
 have hu25 := Try.underlying25; (have hmf : ∀ (fn : Fn) (first cap : Array Value) (w : World), (Instr.makeFunc fn first cap).run Try.prog w = .ok (.func fn first cap) w := fun _ _ _ _ => rfl); have HS0 := Aside0.mk hs; have HS1 := Aside0.mk ss; have HS2 := Aside0.mk hl; have HC0 := Aside0.mk hc0; have HC1 := Aside0.mk hc1; have HC2 := Aside0.mk hc2; have HR := Aside0.mk (Option.some.inj h); clear hs ss hl hc0 hc1 hc2 h; obtain ⟨fb, hfb⟩ : ∃ fb, (decide (0 ≤ a2) && decide (a2 ≤ 3)) = fb := ⟨_, rfl⟩; (have HFA : Aside0 (cool_failing.f a2 = some fb) := ⟨by rw [failing_f, hfb]⟩); have HFB := Aside0.mk hfb; clear hfb
 cases hgo : givenO H S l fb with
 | none =>
  have HGO := Aside0.mk hgo; clear hgo; refine calls_of_wp_marks Try.func38 rfl ?_; simp only [Try.ntmps38, List.size_toArray, List.length_cons, List.length_nil, Nat.reduceAdd, Nat.reduceSub, Array.replicate_succ, Array.replicate_zero, List.push_toArray, List.append_toArray, List.nil_append, List.cons_append]; (go_wp2_with (first | ((with_reducible refine gate_dst (N := 3) rfl ?_); refine box_event ?hg (N := 3) ?hd (cs := #[.slice A0 H.length c0, .slice A1 S.length c1]) (t := 25) ?hr ?_; (case hd => rfl); (case hg => rfl); (case hr => first | (go_simp; done) | (go_simp; rfl)); intro gb hg w8 hbox hb; have HBX := Aside0.mk (show TBox w8 gb A0 H.length c0 A1 S.length c1 from hbox); have HB := Aside0.mk hb; have hc_0 : w8.cell? ⟨gb, 0, none⟩ = some (.slice A0 H.length c0) := (blk_cell hbox 0).trans rfl; have hc_1 : w8.cell? ⟨gb, 1, none⟩ = some (.slice A1 S.length c1) := (blk_cell hbox 1).trans rfl; clear hbox hb hg))); go_step3; go_wp2; (replace HBX := Aside0.mk (show w8.heap[gb]? = some (.cells #[.slice A0 H.length c0, .slice A1 S.length c1] 25 (0, 0)) from HBX.out)); (refine start_ (n := 11) (S := fun w' => w'.cell? ⟨gb, 0, none⟩ = some (.slice A0 H.length c0) ∧ w'.cell? ⟨gb, 1, none⟩ = some (.slice A1 S.length c1)) (ds := [9]) #[false, false, false, false, false, false, false, false, false, false, false] (by kernel_rfl) rfl rfl ⟨hc_0, hc_1⟩ (fun hHeld => ?_); refine with_tabW bk1.tab bk1.bits (fun HT_ HW_ => ?_)); (refine pure_ (i := 1) (N := some 18) (v := ?_) (a' := ?_) #[false, true, false, false, false, false, false, false, false, false, false] rfl rfl (any_of HT_.out (by kernel_rfl)) (fun _ _ _ h => h) (Or.inl ⟨by rfl, ?_⟩) ?_ ?_); rotate_left
  · intro w'; go_simp; (with_reducible rfl)
  rotate_left
  · simp only [Act.put, List.setIfInBounds_toArray, List.set_cons_zero, List.set_cons_succ, i64_w, i32_w]; rfl
  (refine pure_ (i := 2) (N := some 19) (v := ?_) (a' := ?_) #[false, true, true, false, false, false, false, false, false, false, false] rfl rfl (any_of HT_.out (by kernel_rfl)) (fun _ _ _ h => h) (Or.inl ⟨by rfl, ?_⟩) ?_ ?_); rotate_left
  · intro w'; go_simp; (with_reducible rfl)
  rotate_left
  · simp only [Act.put, List.setIfInBounds_toArray, List.set_cons_zero, List.set_cons_succ, i64_w, i32_w]; rfl
  (refine take_ (i := 0) (N := some 17) (v := ?_) (a' := ?_) #[true, true, true, false, false, false, false, false, false, false, false] rfl rfl (take_ofW HT_.out HW_.out (by kernel_rfl)) (fun _ _ _ h => h) (Or.inl ⟨by rfl, ?_⟩) hHeld ?_ ?_); rotate_left
  · rintro w' ⟨s0, s1⟩; go_simp; (with_reducible rfl)
  rotate_left
  · simp only [Act.put, List.setIfInBounds_toArray, List.set_cons_zero, List.set_cons_succ, i64_w, i32_w]; rfl
  refine join_ (σ := Nat × Nat × Nat) 2 #[true, true, true, true, true, true, true, true, true, false, false] (fun s => [(20, .bool fb), (21, .tuple #[.pointer none, .int .i64 2]), (9, .pointer (some ⟨s.2.2, 0, none⟩)), (16, .tuple #[.pointer none, .int .i64 2]), (22, .pointer none), (23, .int .i64 2)]) (fun s w' => Vr w' s.2.2 88 (.pointer none) ∧ TBox w' gb A0 H.length c0 A1 S.length c1 ∧ Below w.heap.size w w' ∧ w.heap.size ≤ s.2.2) ?hcont ?hboth
  case hboth =>
   intro hc; (refine two_ (i := 3) (j := 8) (Ni := some 20) (Nj := some 9) #[true, true, true, true, false, false, false, false, false, false, false] #[true, true, true, false, false, false, false, false, true, false, false] rfl rfl rfl rfl (by kernel_rfl) (by decide) (by decide) (fun K hK => ?_) (fun K hK => ?_))
   · (refine goes_ Try.func48 (by kernel_rfl) rfl #[.int .i64 a2] (by rfl) rfl rfl (by (try simp only [List.map_toArray, List.map_cons, List.map_nil]); first | done | rfl) ?_); (with_reducible refine (cool_failing.calls a2 fb _ HFA.out).mono ?_); rintro e wq ⟨rfl, ⟨nd, rfl⟩⟩; obtain ⟨wf, hwf⟩ : ∃ wf, World.drewN w8.drew nd = wf := ⟨_, rfl⟩; rw [hwf]; refine ⟨_, rfl, ?_⟩; (have HXF := Aside0.mk (show TBox wf gb A0 H.length c0 A1 S.length c1 by rw [← hwf]; exact (blk_drewN (blk_drew HBX.out) _))); (have HBF := Aside0.mk (show Below w.heap.size w wf by rw [← hwf]; exact pw_below_drewN (below_drew1 HB.out) _)); clear hwf; (refine hK.out _ _ ⟨(blk_cell HXF.out 0).trans rfl, (blk_cell HXF.out 1).trans rfl⟩ (fun hHeld => ?_)); clear hK K; refine norm_ (a' := ?_) ?_ ?_; rotate_left
     · (show Act.put _ (some 20) _ = _); simp only [Act.put, List.setIfInBounds_toArray, List.set_cons_zero, List.set_cons_succ, i64_w, i32_w]; rfl
     refine two_ (i := 4) (j := 8) (Ni := some 21) (Nj := some 9) #[true, true, true, true, true, false, false, false, false, false, false] #[true, true, true, true, false, false, false, false, true, false, false] rfl rfl rfl rfl (by kernel_rfl) (by decide) (by decide) (fun K hK => ?_) (fun K hK => ?_)
     · (refine goes_ Try.func60 (by kernel_rfl) rfl #[.agg #[.slice A0 H.length c0, .slice A1 S.length c1], .slice A2 l.length c2, .bool fb] (by rfl) rfl rfl (by (try simp only [List.map_toArray, List.map_cons, List.map_nil]); first | done | rfl) ?_); (with_reducible refine (given_no A0 c0 H A1 c1 S A2 c2 l fb  wf ?s1 HC0.out ?s2 HC1.out ?s3 HC2.out HGO.out).mono ?_); ((case s1 => exact Kd.C_below HS0.out HBF.out)); ((case s2 => exact Kd.C_below HS1.out HBF.out)); ((case s3 => exact Kd.C_below HS2.out HBF.out)); rintro e wg ⟨rfl, hb⟩; refine ⟨_, rfl, ?_⟩; have HXG := Aside0.mk (HXF.out.below hb); have HBG := Aside0.mk (below_step HBF.out hb); (refine hK.out _ _ ⟨(blk_cell HXG.out 0).trans rfl, (blk_cell HXG.out 1).trans rfl⟩ (fun hHeld => ?_)); clear hK K; refine norm_ (a' := ?_) ?_ ?_; rotate_left
       · (show Act.put _ (some 21) _ = _); simp only [Act.put, List.setIfInBounds_toArray, List.set_cons_zero, List.set_cons_succ, i64_w, i32_w]; rfl
       (refine pure_ (i := 5) (N := some 16) (v := ?_) (a' := ?_) #[true, true, true, true, true, true, false, false, false, false, false] rfl rfl (any_of HT_.out (by kernel_rfl)) (fun _ _ _ h => h) (Or.inl ⟨by rfl, ?_⟩) ?_ ?_); rotate_left
       · intro w'; go_simp; (with_reducible rfl)
       rotate_left
       · simp only [Act.put, List.setIfInBounds_toArray, List.set_cons_zero, List.set_cons_succ, i64_w, i32_w]; rfl
       (refine pure_ (i := 6) (N := some 22) (v := ?_) (a' := ?_) #[true, true, true, true, true, true, true, false, false, false, false] rfl rfl (any_of HT_.out (by kernel_rfl)) (fun _ _ _ h => h) (Or.inl ⟨by rfl, ?_⟩) ?_ ?_); rotate_left
       · intro w'; go_simp; (with_reducible rfl)
       rotate_left
       · simp only [Act.put, List.setIfInBounds_toArray, List.set_cons_zero, List.set_cons_succ, i64_w, i32_w]; rfl
       (refine pure_ (i := 7) (N := some 23) (v := ?_) (a' := ?_) #[true, true, true, true, true, true, true, true, false, false, false] rfl rfl (any_of HT_.out (by kernel_rfl)) (fun _ _ _ h => h) (Or.inl ⟨by rfl, ?_⟩) ?_ ?_); rotate_left
       · intro w'; go_simp; (with_reducible rfl)
       rotate_left
       · simp only [Act.put, List.setIfInBounds_toArray, List.set_cons_zero, List.set_cons_succ, i64_w, i32_w]; rfl
       (refine one_ (i := 8) (N := some 9) #[true, true, true, true, true, true, true, true, true, false, false] rfl rfl (one_of HT_.out (by kernel_rfl)) (by decide) (fun K hK => ?_)); (refine value_ (w1 := wg.alloc (.cells #[.pointer none] 88 (0, 0))) (v := .pointer (some ⟨wg.heap.size, 0, none⟩)) (by rfl) rfl (by go_simp) ?_); have HXA : TBox (wg.alloc (.cells #[.pointer none] 88 (0, 0))) gb A0 H.length c0 A1 S.length c1 := blk_alloc HXG.out _; (refine hK.out _ _ ⟨(blk_cell HXA 0).trans rfl, (blk_cell HXA 1).trans rfl⟩ (fun hHeld => ?_)); clear hK K; refine norm_ (a' := _) ?_ (hc (0, 0, wg.heap.size) _ ⟨blk_new wg _, HXA, HBG.out.alloc HBG.out.size _, HBG.out.size⟩); simp only [putAll, Act.put, List.setIfInBounds_toArray, List.set_cons_zero, List.set_cons_succ]
     · (refine value_ (w1 := wf.alloc (.cells #[.pointer none] 88 (0, 0))) (v := .pointer (some ⟨wf.heap.size, 0, none⟩)) (by rfl) rfl (by go_simp) ?_); (have HXA := Aside0.mk (show TBox (wf.alloc (.cells #[.pointer none] 88 (0, 0))) gb A0 H.length c0 A1 S.length c1 from blk_alloc HXF.out _)); (have HNA := Aside0.mk (show Vr (wf.alloc (.cells #[.pointer none] 88 (0, 0))) wf.heap.size 88 (.pointer none) from blk_new wf _)); (have HBA := Aside0.mk (show Below w.heap.size w (wf.alloc (.cells #[.pointer none] 88 (0, 0))) from HBF.out.alloc HBF.out.size _)); (refine hK.out _ _ ⟨(blk_cell HXA.out 0).trans rfl, (blk_cell HXA.out 1).trans rfl⟩ (fun hHeld => ?_)); clear hK K; refine norm_ (a' := ?_) ?_ ?_; rotate_left
       · (show Act.put _ (some 9) _ = _); simp only [Act.put, List.setIfInBounds_toArray, List.set_cons_zero, List.set_cons_succ, i64_w, i32_w]; rfl
       generalize wf.alloc (.cells #[.pointer none] 88 (0, 0)) = wa at HXA HNA HBA hHeld ⊢; (refine one_ (i := 4) (N := some 21) #[true, true, true, true, true, false, false, false, true, false, false] rfl rfl (one_of HT_.out (by kernel_rfl)) (by decide) (fun K hK => ?_)); (refine goes_ Try.func60 (by kernel_rfl) rfl #[.agg #[.slice A0 H.length c0, .slice A1 S.length c1], .slice A2 l.length c2, .bool fb] (by rfl) rfl rfl (by (try simp only [List.map_toArray, List.map_cons, List.map_nil]); first | done | rfl) ?_); (with_reducible refine (given_no A0 c0 H A1 c1 S A2 c2 l fb  wa ?s1 HC0.out ?s2 HC1.out ?s3 HC2.out HGO.out).mono ?_); ((case s1 => exact Kd.C_below HS0.out HBA.out)); ((case s2 => exact Kd.C_below HS1.out HBA.out)); ((case s3 => exact Kd.C_below HS2.out HBA.out)); rintro e wg ⟨rfl, hb⟩; refine ⟨_, rfl, ?_⟩; have HXG := Aside0.mk (HXA.out.below hb); have HBG := Aside0.mk (below_step HBA.out hb); have HNG := Aside0.mk (HNA.out.below hb); (refine hK.out _ _ ⟨(blk_cell HXG.out 0).trans rfl, (blk_cell HXG.out 1).trans rfl⟩ (fun hHeld => ?_)); clear hK K; refine norm_ (a' := ?_) ?_ ?_; rotate_left
       · (show Act.put _ (some 21) _ = _); simp only [Act.put, List.setIfInBounds_toArray, List.set_cons_zero, List.set_cons_succ, i64_w, i32_w]; rfl
       (refine pure_ (i := 5) (N := some 16) (v := ?_) (a' := ?_) #[true, true, true, true, true, true, false, false, true, false, false] rfl rfl (any_of HT_.out (by kernel_rfl)) (fun _ _ _ h => h) (Or.inl ⟨by rfl, ?_⟩) ?_ ?_); rotate_left
       · intro w'; go_simp; (with_reducible rfl)
       rotate_left
       · simp only [Act.put, List.setIfInBounds_toArray, List.set_cons_zero, List.set_cons_succ, i64_w, i32_w]; rfl
       (refine pure_ (i := 6) (N := some 22) (v := ?_) (a' := ?_) #[true, true, true, true, true, true, true, false, true, false, false] rfl rfl (any_of HT_.out (by kernel_rfl)) (fun _ _ _ h => h) (Or.inl ⟨by rfl, ?_⟩) ?_ ?_); rotate_left
       · intro w'; go_simp; (with_reducible rfl)
       rotate_left
       · simp only [Act.put, List.setIfInBounds_toArray, List.set_cons_zero, List.set_cons_succ, i64_w, i32_w]; rfl
       (refine pure_ (i := 7) (N := some 23) (v := ?_) (a' := ?_) #[true, true, true, true, true, true, true, true, true, false, false] rfl rfl (any_of HT_.out (by kernel_rfl)) (fun _ _ _ h => h) (Or.inl ⟨by rfl, ?_⟩) ?_ ?_); rotate_left
       · intro w'; go_simp; (with_reducible rfl)
       rotate_left
       · simp only [Act.put, List.setIfInBounds_toArray, List.set_cons_zero, List.set_cons_succ, i64_w, i32_w]; rfl
       refine norm_ (a' := _) ?_ (hc (0, 0, wf.heap.size) _ ⟨HNG.out, HXG.out, HBG.out, HBF.out.size⟩); simp only [putAll, Act.put, List.setIfInBounds_toArray, List.set_cons_zero, List.set_cons_succ]
   · (refine value_ (w1 := w8.drew.alloc (.cells #[.pointer none] 88 (0, 0))) (v := .pointer (some ⟨w8.heap.size, 0, none⟩)) (by rfl) rfl (by go_simp) ?_); (have HXA := Aside0.mk (show TBox (w8.drew.alloc (.cells #[.pointer none] 88 (0, 0))) gb A0 H.length c0 A1 S.length c1 from blk_alloc (w := w8.drew) HBX.out _)); (have HNA := Aside0.mk (show Vr (w8.drew.alloc (.cells #[.pointer none] 88 (0, 0))) w8.heap.size 88 (.pointer none) from blk_new w8.drew _)); (have HBA := Aside0.mk (show Below w.heap.size w (w8.drew.alloc (.cells #[.pointer none] 88 (0, 0))) from (below_drew1 HB.out).alloc HB.out.size _)); (refine hK.out _ _ ⟨(blk_cell HXA.out 0).trans rfl, (blk_cell HXA.out 1).trans rfl⟩ (fun hHeld => ?_)); clear hK K; refine norm_ (a' := ?_) ?_ ?_; rotate_left
     · (show Act.put _ (some 9) _ = _); simp only [Act.put, List.setIfInBounds_toArray, List.set_cons_zero, List.set_cons_succ, i64_w, i32_w]; rfl
     generalize w8.drew.alloc (.cells #[.pointer none] 88 (0, 0)) = wa at HXA HNA HBA hHeld ⊢; (refine one_ (i := 3) (N := some 20) #[true, true, true, true, false, false, false, false, true, false, false] rfl rfl (one_of HT_.out (by kernel_rfl)) (by decide) (fun K hK => ?_)); (refine goes_ Try.func48 (by kernel_rfl) rfl #[.int .i64 a2] (by rfl) rfl rfl (by (try simp only [List.map_toArray, List.map_cons, List.map_nil]); first | done | rfl) ?_); (with_reducible refine (cool_failing.calls a2 fb _ HFA.out).mono ?_); rintro e wq ⟨rfl, ⟨nd, rfl⟩⟩; obtain ⟨wf, hwf⟩ : ∃ wf, World.drewN wa nd = wf := ⟨_, rfl⟩; rw [hwf]; refine ⟨_, rfl, ?_⟩; (have HXF := Aside0.mk (show TBox wf gb A0 H.length c0 A1 S.length c1 by rw [← hwf]; exact (blk_drewN HXA.out _))); (have HBF := Aside0.mk (show Below w.heap.size w wf by rw [← hwf]; exact pw_below_drewN HBA.out _)); (have HNF := Aside0.mk (show Vr wf w8.heap.size 88 (.pointer none) by rw [← hwf]; exact blk_drewN HNA.out _)); clear hwf; (refine hK.out _ _ ⟨(blk_cell HXF.out 0).trans rfl, (blk_cell HXF.out 1).trans rfl⟩ (fun hHeld => ?_)); clear hK K; refine norm_ (a' := ?_) ?_ ?_; rotate_left
     · (show Act.put _ (some 20) _ = _); simp only [Act.put, List.setIfInBounds_toArray, List.set_cons_zero, List.set_cons_succ, i64_w, i32_w]; rfl
     (refine one_ (i := 4) (N := some 21) #[true, true, true, true, true, false, false, false, true, false, false] rfl rfl (one_of HT_.out (by kernel_rfl)) (by decide) (fun K hK => ?_)); (refine goes_ Try.func60 (by kernel_rfl) rfl #[.agg #[.slice A0 H.length c0, .slice A1 S.length c1], .slice A2 l.length c2, .bool fb] (by rfl) rfl rfl (by (try simp only [List.map_toArray, List.map_cons, List.map_nil]); first | done | rfl) ?_); (with_reducible refine (given_no A0 c0 H A1 c1 S A2 c2 l fb  wf ?s1 HC0.out ?s2 HC1.out ?s3 HC2.out HGO.out).mono ?_); ((case s1 => exact Kd.C_below HS0.out HBF.out)); ((case s2 => exact Kd.C_below HS1.out HBF.out)); ((case s3 => exact Kd.C_below HS2.out HBF.out)); rintro e wg ⟨rfl, hb⟩; refine ⟨_, rfl, ?_⟩; have HXG := Aside0.mk (HXF.out.below hb); have HBG := Aside0.mk (below_step HBF.out hb); have HNG := Aside0.mk (HNF.out.below hb); (refine hK.out _ _ ⟨(blk_cell HXG.out 0).trans rfl, (blk_cell HXG.out 1).trans rfl⟩ (fun hHeld => ?_)); clear hK K; refine norm_ (a' := ?_) ?_ ?_; rotate_left
     · (show Act.put _ (some 21) _ = _); simp only [Act.put, List.setIfInBounds_toArray, List.set_cons_zero, List.set_cons_succ, i64_w, i32_w]; rfl
     (refine pure_ (i := 5) (N := some 16) (v := ?_) (a' := ?_) #[true, true, true, true, true, true, false, false, true, false, false] rfl rfl (any_of HT_.out (by kernel_rfl)) (fun _ _ _ h => h) (Or.inl ⟨by rfl, ?_⟩) ?_ ?_); rotate_left
     · intro w'; go_simp; (with_reducible rfl)
     rotate_left
     · simp only [Act.put, List.setIfInBounds_toArray, List.set_cons_zero, List.set_cons_succ, i64_w, i32_w]; rfl
     (refine pure_ (i := 6) (N := some 22) (v := ?_) (a' := ?_) #[true, true, true, true, true, true, true, false, true, false, false] rfl rfl (any_of HT_.out (by kernel_rfl)) (fun _ _ _ h => h) (Or.inl ⟨by rfl, ?_⟩) ?_ ?_); rotate_left
     · intro w'; go_simp; (with_reducible rfl)
     rotate_left
     · simp only [Act.put, List.setIfInBounds_toArray, List.set_cons_zero, List.set_cons_succ, i64_w, i32_w]; rfl
     (refine pure_ (i := 7) (N := some 23) (v := ?_) (a' := ?_) #[true, true, true, true, true, true, true, true, true, false, false] rfl rfl (any_of HT_.out (by kernel_rfl)) (fun _ _ _ h => h) (Or.inl ⟨by rfl, ?_⟩) ?_ ?_); rotate_left
     · intro w'; go_simp; (with_reducible rfl)
     rotate_left
     · simp only [Act.put, List.setIfInBounds_toArray, List.set_cons_zero, List.set_cons_succ, i64_w, i32_w]; rfl
     refine norm_ (a' := _) ?_ (hc (0, 0, w8.heap.size) _ ⟨HNG.out, HXG.out, HBG.out, HB.out.size⟩); simp only [putAll, Act.put, List.setIfInBounds_toArray, List.set_cons_zero, List.set_cons_succ]
  case hcont =>
   rintro ⟨B, M, g9⟩ w6 ⟨hV6, hX6, hB6, hg6⟩; simp only at *; have hc6 := hV6.cell; have hf6 := hV6.frozen; refine norm_ (a' := ?_) ?_ ?_; rotate_left
   · simp only [putAll, Act.put, List.setIfInBounds_toArray, List.set_cons_zero, List.set_cons_succ]; rfl
   (refine last_ (i := 9) (N := none) #[true, true, true, true, true, true, true, true, true, true, false] rfl rfl (one_of HT_.out (by kernel_rfl)) (by decide) (fun K hK => ?_)); (refine skip_ (w1 := w6.setCell ⟨g9, 0, none⟩ (.pointer none)) (by rfl) rfl (by go_simp) ?_); refine hK.out _ _ ?_; clear hK K; (refine pure_ (i := 10) (N := some 10) (v := ?_) (a' := ?_) #[true, true, true, true, true, true, true, true, true, true, true] rfl rfl (any_of HT_.out (by kernel_rfl)) (fun _ _ _ h => h) (Or.inl ⟨by rfl, ?_⟩) ?_ ?_); rotate_left
   · intro w'; go_simp; (with_reducible rfl)
   rotate_left
   · simp only [Act.put, List.setIfInBounds_toArray, List.set_cons_zero, List.set_cons_succ, i64_w, i32_w]; rfl
   (refine done_ (done_of HT_.out (by kernel_rfl)) ?_); have HV9 := Aside0.mk (hV6.set (.pointer none)); have HB7 := Aside0.mk (hB6.setCell (p := ⟨g9, 0, none⟩) hg6 (.pointer none)); have HG9 := Aside0.mk hg6; clear hV6 hX6 hB6 hg6 hc6 hf6; generalize w6.setCell ⟨g9, 0, none⟩ (.pointer none) = w7 at *; go_wp2; rw [Exit.noGoto_ret]; have hr := HR.out; have hfb := HFB.out; have hgo := HGO.out; unfold breakV at hr; rw [hfb, hgo] at hr; cases hr; (exact ⟨[], rfl, Mks.nil _, _, (fun w' => results_tmp3 rfl _ _ _), fun w' hs => ⟨_, rfl, Kd.R_nil _ _ _ _ _, below_step HB7.out hs.nil⟩⟩)
 | some C =>
  have HGO := Aside0.mk hgo; clear hgo; obtain ⟨gv, gf, gi, gC, gl⟩ := givenO_some HGO.out; obtain ⟨v1, v2, v3, v4, v5, v6⟩ := valid_facts gv
  have hn : ∃ n : Nat, a2 = n ∧ n ≤ 3 := ⟨a2.toNat, by
   have := HFB.out; rw [gf] at this; simp at this; omega, by have := HFB.out; rw [gf] at this; simp at this; omega⟩
  obtain ⟨n, rfl, hn3⟩ := hn; have HGD := Aside0.mk v5; have HCB := Aside0.mk v6; (have HH6 := Aside0.mk (show H.length ≤ 100 by omega)); have HCL := Aside0.mk gl; (have HN3 := Aside0.mk (show n ≤ 1000 by omega)); (have HSL : Aside0 (S.length ≤ 64) := ⟨by omega⟩); (have HC10 : Aside0 (C < 2 ^ 10) := ⟨Nat.lt_of_lt_of_le gl (Nat.pow_le_pow_right (by decide) v4)⟩); clear gv gf gi gC gl v1 v2 v3 v4 v5 v6; refine calls_of_wp_marks Try.func38 rfl ?_; simp only [Try.ntmps38, List.size_toArray, List.length_cons, List.length_nil, Nat.reduceAdd, Nat.reduceSub, Array.replicate_succ, Array.replicate_zero, List.push_toArray, List.append_toArray, List.nil_append, List.cons_append]; (go_wp2_with (first | ((with_reducible refine gate_dst (N := 3) rfl ?_); refine box_event ?hg (N := 3) ?hd (cs := #[.slice A0 H.length c0, .slice A1 S.length c1]) (t := 25) ?hr ?_; (case hd => rfl); (case hg => rfl); (case hr => first | (go_simp; done) | (go_simp; rfl)); intro gb hg w8 hbox hb; have HBX := Aside0.mk (show TBox w8 gb A0 H.length c0 A1 S.length c1 from hbox); have HB := Aside0.mk hb; have hc_0 : w8.cell? ⟨gb, 0, none⟩ = some (.slice A0 H.length c0) := (blk_cell hbox 0).trans rfl; have hc_1 : w8.cell? ⟨gb, 1, none⟩ = some (.slice A1 S.length c1) := (blk_cell hbox 1).trans rfl; clear hbox hb hg))); go_step3; go_wp2; (replace HBX := Aside0.mk (show w8.heap[gb]? = some (.cells #[.slice A0 H.length c0, .slice A1 S.length c1] 25 (0, 0)) from HBX.out)); (refine start_ (n := 11) (S := fun w' => w'.cell? ⟨gb, 0, none⟩ = some (.slice A0 H.length c0) ∧ w'.cell? ⟨gb, 1, none⟩ = some (.slice A1 S.length c1)) (ds := [9]) #[false, false, false, false, false, false, false, false, false, false, false] (by kernel_rfl) rfl rfl ⟨hc_0, hc_1⟩ (fun hHeld => ?_); refine with_tabW bk1.tab bk1.bits (fun HT_ HW_ => ?_)); (refine pure_ (i := 1) (N := some 18) (v := ?_) (a' := ?_) #[false, true, false, false, false, false, false, false, false, false, false] rfl rfl (any_of HT_.out (by kernel_rfl)) (fun _ _ _ h => h) (Or.inl ⟨by rfl, ?_⟩) ?_ ?_); rotate_left
  · intro w'; go_simp; (with_reducible rfl)
  rotate_left
  · simp only [Act.put, List.setIfInBounds_toArray, List.set_cons_zero, List.set_cons_succ, i64_w, i32_w]; rfl
  (refine pure_ (i := 2) (N := some 19) (v := ?_) (a' := ?_) #[false, true, true, false, false, false, false, false, false, false, false] rfl rfl (any_of HT_.out (by kernel_rfl)) (fun _ _ _ h => h) (Or.inl ⟨by rfl, ?_⟩) ?_ ?_); rotate_left
  · intro w'; go_simp; (with_reducible rfl)
  rotate_left
  · simp only [Act.put, List.setIfInBounds_toArray, List.set_cons_zero, List.set_cons_succ, i64_w, i32_w]; rfl
  (refine take_ (i := 0) (N := some 17) (v := ?_) (a' := ?_) #[true, true, true, false, false, false, false, false, false, false, false] rfl rfl (take_ofW HT_.out HW_.out (by kernel_rfl)) (fun _ _ _ h => h) (Or.inl ⟨by rfl, ?_⟩) hHeld ?_ ?_); rotate_left
  · rintro w' ⟨s0, s1⟩; go_simp; (with_reducible rfl)
  rotate_left
  · simp only [Act.put, List.setIfInBounds_toArray, List.set_cons_zero, List.set_cons_succ, i64_w, i32_w]; rfl
  refine join_ (σ := Nat × Nat × Nat) 2 #[true, true, true, true, true, true, true, true, true, false, false] (fun s => [(20, .bool fb), (21, .tuple #[.pointer (some ⟨s.1, 0, none⟩), .int .i64 0]), (9, .pointer (some ⟨s.2.2, 0, none⟩)), (16, .tuple #[.pointer (some ⟨s.1, 0, none⟩), .int .i64 0]), (22, .pointer (some ⟨s.1, 0, none⟩)), (23, .int .i64 0)]) (fun s w' => Vr w' s.2.2 88 (.pointer none) ∧ TBox w' gb A0 H.length c0 A1 S.length c1 ∧ Below w.heap.size w w' ∧ w.heap.size ≤ s.2.2 ∧ Tn w' s.1 s.2.1 A0 c0 H A1 c1 S C ∧ w.heap.size ≤ s.1 ∧ w.heap.size ≤ s.2.1) ?hcont ?hboth
  case hboth =>
   intro hc; (refine two_ (i := 3) (j := 8) (Ni := some 20) (Nj := some 9) #[true, true, true, true, false, false, false, false, false, false, false] #[true, true, true, false, false, false, false, false, true, false, false] rfl rfl rfl rfl (by kernel_rfl) (by decide) (by decide) (fun K hK => ?_) (fun K hK => ?_))
   · (refine goes_ Try.func48 (by kernel_rfl) rfl #[.int .i64 (n : Int)] (by rfl) rfl rfl (by (try simp only [List.map_toArray, List.map_cons, List.map_nil]); first | done | rfl) ?_); (with_reducible refine (cool_failing.calls (n : Int) fb _ HFA.out).mono ?_); rintro e wq ⟨rfl, ⟨nd, rfl⟩⟩; obtain ⟨wf, hwf⟩ : ∃ wf, World.drewN w8.drew nd = wf := ⟨_, rfl⟩; rw [hwf]; refine ⟨_, rfl, ?_⟩; (have HXF := Aside0.mk (show TBox wf gb A0 H.length c0 A1 S.length c1 by rw [← hwf]; exact (blk_drewN (blk_drew HBX.out) _))); (have HBF := Aside0.mk (show Below w.heap.size w wf by rw [← hwf]; exact pw_below_drewN (below_drew1 HB.out) _)); clear hwf; (refine hK.out _ _ ⟨(blk_cell HXF.out 0).trans rfl, (blk_cell HXF.out 1).trans rfl⟩ (fun hHeld => ?_)); clear hK K; refine norm_ (a' := ?_) ?_ ?_; rotate_left
     · (show Act.put _ (some 20) _ = _); simp only [Act.put, List.setIfInBounds_toArray, List.set_cons_zero, List.set_cons_succ, i64_w, i32_w]; rfl
     refine two_ (i := 4) (j := 8) (Ni := some 21) (Nj := some 9) #[true, true, true, true, true, false, false, false, false, false, false] #[true, true, true, true, false, false, false, false, true, false, false] rfl rfl rfl rfl (by kernel_rfl) (by decide) (by decide) (fun K hK => ?_) (fun K hK => ?_)
     · (refine goes_ Try.func60 (by kernel_rfl) rfl #[.agg #[.slice A0 H.length c0, .slice A1 S.length c1], .slice A2 l.length c2, .bool fb] (by rfl) rfl rfl (by (try simp only [List.map_toArray, List.map_cons, List.map_nil]); first | done | rfl) ?_); (with_reducible refine (given_yes A0 c0 H A1 c1 S A2 c2 l fb C wf ?s1 HC0.out ?s2 HC1.out ?s3 HC2.out HGO.out).mono ?_); ((case s1 => exact Kd.C_below HS0.out HBF.out)); ((case s2 => exact Kd.C_below HS1.out HBF.out)); ((case s3 => exact Kd.C_below HS2.out HBF.out)); rintro e wg ⟨B, M, rfl, hB, hM, hT, hb⟩; refine ⟨_, rfl, ?_⟩; have HXG := Aside0.mk (HXF.out.below hb); have HBG := Aside0.mk (below_step HBF.out hb); (refine hK.out _ _ ⟨(blk_cell HXG.out 0).trans rfl, (blk_cell HXG.out 1).trans rfl⟩ (fun hHeld => ?_)); clear hK K; refine norm_ (a' := ?_) ?_ ?_; rotate_left
       · (show Act.put _ (some 21) _ = _); simp only [Act.put, List.setIfInBounds_toArray, List.set_cons_zero, List.set_cons_succ, i64_w, i32_w]; rfl
       (refine pure_ (i := 5) (N := some 16) (v := ?_) (a' := ?_) #[true, true, true, true, true, true, false, false, false, false, false] rfl rfl (any_of HT_.out (by kernel_rfl)) (fun _ _ _ h => h) (Or.inl ⟨by rfl, ?_⟩) ?_ ?_); rotate_left
       · intro w'; go_simp; (with_reducible rfl)
       rotate_left
       · simp only [Act.put, List.setIfInBounds_toArray, List.set_cons_zero, List.set_cons_succ, i64_w, i32_w]; rfl
       (refine pure_ (i := 6) (N := some 22) (v := ?_) (a' := ?_) #[true, true, true, true, true, true, true, false, false, false, false] rfl rfl (any_of HT_.out (by kernel_rfl)) (fun _ _ _ h => h) (Or.inl ⟨by rfl, ?_⟩) ?_ ?_); rotate_left
       · intro w'; go_simp; (with_reducible rfl)
       rotate_left
       · simp only [Act.put, List.setIfInBounds_toArray, List.set_cons_zero, List.set_cons_succ, i64_w, i32_w]; rfl
       (refine pure_ (i := 7) (N := some 23) (v := ?_) (a' := ?_) #[true, true, true, true, true, true, true, true, false, false, false] rfl rfl (any_of HT_.out (by kernel_rfl)) (fun _ _ _ h => h) (Or.inl ⟨by rfl, ?_⟩) ?_ ?_); rotate_left
       · intro w'; go_simp; (with_reducible rfl)
       rotate_left
       · simp only [Act.put, List.setIfInBounds_toArray, List.set_cons_zero, List.set_cons_succ, i64_w, i32_w]; rfl
       (refine one_ (i := 8) (N := some 9) #[true, true, true, true, true, true, true, true, true, false, false] rfl rfl (one_of HT_.out (by kernel_rfl)) (by decide) (fun K hK => ?_)); (refine value_ (w1 := wg.alloc (.cells #[.pointer none] 88 (0, 0))) (v := .pointer (some ⟨wg.heap.size, 0, none⟩)) (by rfl) rfl (by go_simp) ?_); have HXA : TBox (wg.alloc (.cells #[.pointer none] 88 (0, 0))) gb A0 H.length c0 A1 S.length c1 := blk_alloc HXG.out _; (refine hK.out _ _ ⟨(blk_cell HXA 0).trans rfl, (blk_cell HXA 1).trans rfl⟩ (fun hHeld => ?_)); clear hK K; refine norm_ (a' := _) ?_ (hc (B, M, wg.heap.size) _ ⟨blk_new wg _, HXA, HBG.out.alloc HBG.out.size _, HBG.out.size, hT.below ((Below.refl _ _).alloc (Nat.le_refl _) _), Nat.le_trans HBF.out.size hB, Nat.le_trans HBF.out.size hM⟩); simp only [putAll, Act.put, List.setIfInBounds_toArray, List.set_cons_zero, List.set_cons_succ]
     · (refine value_ (w1 := wf.alloc (.cells #[.pointer none] 88 (0, 0))) (v := .pointer (some ⟨wf.heap.size, 0, none⟩)) (by rfl) rfl (by go_simp) ?_); (have HXA := Aside0.mk (show TBox (wf.alloc (.cells #[.pointer none] 88 (0, 0))) gb A0 H.length c0 A1 S.length c1 from blk_alloc HXF.out _)); (have HNA := Aside0.mk (show Vr (wf.alloc (.cells #[.pointer none] 88 (0, 0))) wf.heap.size 88 (.pointer none) from blk_new wf _)); (have HBA := Aside0.mk (show Below w.heap.size w (wf.alloc (.cells #[.pointer none] 88 (0, 0))) from HBF.out.alloc HBF.out.size _)); (refine hK.out _ _ ⟨(blk_cell HXA.out 0).trans rfl, (blk_cell HXA.out 1).trans rfl⟩ (fun hHeld => ?_)); clear hK K; refine norm_ (a' := ?_) ?_ ?_; rotate_left
       · (show Act.put _ (some 9) _ = _); simp only [Act.put, List.setIfInBounds_toArray, List.set_cons_zero, List.set_cons_succ, i64_w, i32_w]; rfl
       generalize wf.alloc (.cells #[.pointer none] 88 (0, 0)) = wa at HXA HNA HBA hHeld ⊢; (refine one_ (i := 4) (N := some 21) #[true, true, true, true, true, false, false, false, true, false, false] rfl rfl (one_of HT_.out (by kernel_rfl)) (by decide) (fun K hK => ?_)); (refine goes_ Try.func60 (by kernel_rfl) rfl #[.agg #[.slice A0 H.length c0, .slice A1 S.length c1], .slice A2 l.length c2, .bool fb] (by rfl) rfl rfl (by (try simp only [List.map_toArray, List.map_cons, List.map_nil]); first | done | rfl) ?_); (with_reducible refine (given_yes A0 c0 H A1 c1 S A2 c2 l fb C wa ?s1 HC0.out ?s2 HC1.out ?s3 HC2.out HGO.out).mono ?_); ((case s1 => exact Kd.C_below HS0.out HBA.out)); ((case s2 => exact Kd.C_below HS1.out HBA.out)); ((case s3 => exact Kd.C_below HS2.out HBA.out)); rintro e wg ⟨B, M, rfl, hB, hM, hT, hb⟩; refine ⟨_, rfl, ?_⟩; have HXG := Aside0.mk (HXA.out.below hb); have HBG := Aside0.mk (below_step HBA.out hb); have HNG := Aside0.mk (HNA.out.below hb); (refine hK.out _ _ ⟨(blk_cell HXG.out 0).trans rfl, (blk_cell HXG.out 1).trans rfl⟩ (fun hHeld => ?_)); clear hK K; refine norm_ (a' := ?_) ?_ ?_; rotate_left
       · (show Act.put _ (some 21) _ = _); simp only [Act.put, List.setIfInBounds_toArray, List.set_cons_zero, List.set_cons_succ, i64_w, i32_w]; rfl
       (refine pure_ (i := 5) (N := some 16) (v := ?_) (a' := ?_) #[true, true, true, true, true, true, false, false, true, false, false] rfl rfl (any_of HT_.out (by kernel_rfl)) (fun _ _ _ h => h) (Or.inl ⟨by rfl, ?_⟩) ?_ ?_); rotate_left
       · intro w'; go_simp; (with_reducible rfl)
       rotate_left
       · simp only [Act.put, List.setIfInBounds_toArray, List.set_cons_zero, List.set_cons_succ, i64_w, i32_w]; rfl
       (refine pure_ (i := 6) (N := some 22) (v := ?_) (a' := ?_) #[true, true, true, true, true, true, true, false, true, false, false] rfl rfl (any_of HT_.out (by kernel_rfl)) (fun _ _ _ h => h) (Or.inl ⟨by rfl, ?_⟩) ?_ ?_); rotate_left
       · intro w'; go_simp; (with_reducible rfl)
       rotate_left
       · simp only [Act.put, List.setIfInBounds_toArray, List.set_cons_zero, List.set_cons_succ, i64_w, i32_w]; rfl
       (refine pure_ (i := 7) (N := some 23) (v := ?_) (a' := ?_) #[true, true, true, true, true, true, true, true, true, false, false] rfl rfl (any_of HT_.out (by kernel_rfl)) (fun _ _ _ h => h) (Or.inl ⟨by rfl, ?_⟩) ?_ ?_); rotate_left
       · intro w'; go_simp; (with_reducible rfl)
       rotate_left
       · simp only [Act.put, List.setIfInBounds_toArray, List.set_cons_zero, List.set_cons_succ, i64_w, i32_w]; rfl
       refine norm_ (a' := _) ?_ (hc (B, M, wf.heap.size) _ ⟨HNG.out, HXG.out, HBG.out, HBF.out.size, hT, Nat.le_trans HBA.out.size hB, Nat.le_trans HBA.out.size hM⟩); simp only [putAll, Act.put, List.setIfInBounds_toArray, List.set_cons_zero, List.set_cons_succ]
   · (refine value_ (w1 := w8.drew.alloc (.cells #[.pointer none] 88 (0, 0))) (v := .pointer (some ⟨w8.heap.size, 0, none⟩)) (by rfl) rfl (by go_simp) ?_); (have HXA := Aside0.mk (show TBox (w8.drew.alloc (.cells #[.pointer none] 88 (0, 0))) gb A0 H.length c0 A1 S.length c1 from blk_alloc (w := w8.drew) HBX.out _)); (have HNA := Aside0.mk (show Vr (w8.drew.alloc (.cells #[.pointer none] 88 (0, 0))) w8.heap.size 88 (.pointer none) from blk_new w8.drew _)); (have HBA := Aside0.mk (show Below w.heap.size w (w8.drew.alloc (.cells #[.pointer none] 88 (0, 0))) from (below_drew1 HB.out).alloc HB.out.size _)); (refine hK.out _ _ ⟨(blk_cell HXA.out 0).trans rfl, (blk_cell HXA.out 1).trans rfl⟩ (fun hHeld => ?_)); clear hK K; refine norm_ (a' := ?_) ?_ ?_; rotate_left
     · (show Act.put _ (some 9) _ = _); simp only [Act.put, List.setIfInBounds_toArray, List.set_cons_zero, List.set_cons_succ, i64_w, i32_w]; rfl
     generalize w8.drew.alloc (.cells #[.pointer none] 88 (0, 0)) = wa at HXA HNA HBA hHeld ⊢; (refine one_ (i := 3) (N := some 20) #[true, true, true, true, false, false, false, false, true, false, false] rfl rfl (one_of HT_.out (by kernel_rfl)) (by decide) (fun K hK => ?_)); (refine goes_ Try.func48 (by kernel_rfl) rfl #[.int .i64 (n : Int)] (by rfl) rfl rfl (by (try simp only [List.map_toArray, List.map_cons, List.map_nil]); first | done | rfl) ?_); (with_reducible refine (cool_failing.calls (n : Int) fb _ HFA.out).mono ?_); rintro e wq ⟨rfl, ⟨nd, rfl⟩⟩; obtain ⟨wf, hwf⟩ : ∃ wf, World.drewN wa nd = wf := ⟨_, rfl⟩; rw [hwf]; refine ⟨_, rfl, ?_⟩; (have HXF := Aside0.mk (show TBox wf gb A0 H.length c0 A1 S.length c1 by rw [← hwf]; exact (blk_drewN HXA.out _))); (have HBF := Aside0.mk (show Below w.heap.size w wf by rw [← hwf]; exact pw_below_drewN HBA.out _)); (have HNF := Aside0.mk (show Vr wf w8.heap.size 88 (.pointer none) by rw [← hwf]; exact blk_drewN HNA.out _)); clear hwf; (refine hK.out _ _ ⟨(blk_cell HXF.out 0).trans rfl, (blk_cell HXF.out 1).trans rfl⟩ (fun hHeld => ?_)); clear hK K; refine norm_ (a' := ?_) ?_ ?_; rotate_left
     · (show Act.put _ (some 20) _ = _); simp only [Act.put, List.setIfInBounds_toArray, List.set_cons_zero, List.set_cons_succ, i64_w, i32_w]; rfl
     (refine one_ (i := 4) (N := some 21) #[true, true, true, true, true, false, false, false, true, false, false] rfl rfl (one_of HT_.out (by kernel_rfl)) (by decide) (fun K hK => ?_)); (refine goes_ Try.func60 (by kernel_rfl) rfl #[.agg #[.slice A0 H.length c0, .slice A1 S.length c1], .slice A2 l.length c2, .bool fb] (by rfl) rfl rfl (by (try simp only [List.map_toArray, List.map_cons, List.map_nil]); first | done | rfl) ?_); (with_reducible refine (given_yes A0 c0 H A1 c1 S A2 c2 l fb C wf ?s1 HC0.out ?s2 HC1.out ?s3 HC2.out HGO.out).mono ?_); ((case s1 => exact Kd.C_below HS0.out HBF.out)); ((case s2 => exact Kd.C_below HS1.out HBF.out)); ((case s3 => exact Kd.C_below HS2.out HBF.out)); rintro e wg ⟨B, M, rfl, hB, hM, hT, hb⟩; refine ⟨_, rfl, ?_⟩; have HXG := Aside0.mk (HXF.out.below hb); have HBG := Aside0.mk (below_step HBF.out hb); have HNG := Aside0.mk (HNF.out.below hb); (refine hK.out _ _ ⟨(blk_cell HXG.out 0).trans rfl, (blk_cell HXG.out 1).trans rfl⟩ (fun hHeld => ?_)); clear hK K; refine norm_ (a' := ?_) ?_ ?_; rotate_left
     · (show Act.put _ (some 21) _ = _); simp only [Act.put, List.setIfInBounds_toArray, List.set_cons_zero, List.set_cons_succ, i64_w, i32_w]; rfl
     (refine pure_ (i := 5) (N := some 16) (v := ?_) (a' := ?_) #[true, true, true, true, true, true, false, false, true, false, false] rfl rfl (any_of HT_.out (by kernel_rfl)) (fun _ _ _ h => h) (Or.inl ⟨by rfl, ?_⟩) ?_ ?_); rotate_left
     · intro w'; go_simp; (with_reducible rfl)
     rotate_left
     · simp only [Act.put, List.setIfInBounds_toArray, List.set_cons_zero, List.set_cons_succ, i64_w, i32_w]; rfl
     (refine pure_ (i := 6) (N := some 22) (v := ?_) (a' := ?_) #[true, true, true, true, true, true, true, false, true, false, false] rfl rfl (any_of HT_.out (by kernel_rfl)) (fun _ _ _ h => h) (Or.inl ⟨by rfl, ?_⟩) ?_ ?_); rotate_left
     · intro w'; go_simp; (with_reducible rfl)
     rotate_left
     · simp only [Act.put, List.setIfInBounds_toArray, List.set_cons_zero, List.set_cons_succ, i64_w, i32_w]; rfl
     (refine pure_ (i := 7) (N := some 23) (v := ?_) (a' := ?_) #[true, true, true, true, true, true, true, true, true, false, false] rfl rfl (any_of HT_.out (by kernel_rfl)) (fun _ _ _ h => h) (Or.inl ⟨by rfl, ?_⟩) ?_ ?_); rotate_left
     · intro w'; go_simp; (with_reducible rfl)
     rotate_left
     · simp only [Act.put, List.setIfInBounds_toArray, List.set_cons_zero, List.set_cons_succ, i64_w, i32_w]; rfl
     refine norm_ (a' := _) ?_ (hc (B, M, w8.heap.size) _ ⟨HNG.out, HXG.out, HBG.out, HB.out.size, hT, Nat.le_trans HBF.out.size hB, Nat.le_trans HBF.out.size hM⟩); simp only [putAll, Act.put, List.setIfInBounds_toArray, List.set_cons_zero, List.set_cons_succ]
  case hcont =>
   rintro ⟨B, M, g9⟩ w6 ⟨hV6, hX6, hB6, hg6, hT6, hB1, hM1⟩; simp only at *; have hc6 := hV6.cell; have hf6 := hV6.frozen; refine norm_ (a' := ?_) ?_ ?_; rotate_left
   · simp only [putAll, Act.put, List.setIfInBounds_toArray, List.set_cons_zero, List.set_cons_succ]; rfl
   (refine last_ (i := 9) (N := none) #[true, true, true, true, true, true, true, true, true, true, false] rfl rfl (one_of HT_.out (by kernel_rfl)) (by decide) (fun K hK => ?_)); (refine skip_ (w1 := w6.setCell ⟨g9, 0, none⟩ (.pointer (some ⟨B, 0, none⟩))) (by rfl) rfl (by go_simp) ?_); refine hK.out _ _ ?_; clear hK K; (refine pure_ (i := 10) (N := some 10) (v := ?_) (a' := ?_) #[true, true, true, true, true, true, true, true, true, true, true] rfl rfl (any_of HT_.out (by kernel_rfl)) (fun _ _ _ h => h) (Or.inl ⟨by rfl, ?_⟩) ?_ ?_); rotate_left
   · intro w'; go_simp; (with_reducible rfl)
   rotate_left
   · simp only [Act.put, List.setIfInBounds_toArray, List.set_cons_zero, List.set_cons_succ, i64_w, i32_w]; rfl
   (refine done_ (done_of HT_.out (by kernel_rfl)) ?_); have HV9 := Aside0.mk (hV6.set (.pointer (some ⟨B, 0, none⟩))); have HB7 := Aside0.mk (hB6.setCell (p := ⟨g9, 0, none⟩) hg6 (.pointer (some ⟨B, 0, none⟩))); have HG9 := Aside0.mk hg6; (have HT7 := Aside0.mk (Tn.far hT6 hV6 (by decide) (.pointer (some ⟨B, 0, none⟩)) (Kd.C_below HS0.out HB7.out) (Kd.C_below HS1.out HB7.out))); have HM7 := Aside0.mk hM1; have HBB7 := Aside0.mk hB1; clear hT6 hB1 hM1; clear hV6 hX6 hB6 hg6 hc6 hf6; generalize w6.setCell ⟨g9, 0, none⟩ (.pointer (some ⟨B, 0, none⟩)) = w7 at *; have h9c := HV9.out.cell
   cases hbk : brk H S n C with
   | none =>
    have HBK := Aside0.mk hbk; clear hbk
    have HBC : Aside0 (Calls Try.prog 52 #[.pointer (some ⟨B, 0, none⟩), .int .i64 n] w7 fun e w' => e = .returned (.tuple #[.int .i64 0, .bool false]) ∧ Tn w' B M A0 c0 H A1 c1 S C ∧ w7.grownBy w' (some M)) := ⟨by
     have h := broken.calls B M A0 c0 H A1 c1 S n C _ HT7.out HGD.out HCB.out HH6.out HCL.out HN3.out; unfold brkI at h; rw [HBK.out] at h
     exact h⟩
    (go_wp2_with (go_at_call 52; (with_reducible refine HBC.out.mono ?_); rintro e w3 ⟨rfl, ht, hg⟩; have HG3 := Aside0.mk hg; clear ht hg)); rw [Exit.noGoto_ret]; have hr := HR.out; have hfb := HFB.out; have hgo := HGO.out; unfold breakV at hr; rw [hfb, hgo] at hr; simp only [Int.toNat_natCast, HBK.out, Prod.mk.injEq] at hr; obtain ⟨rfl, rfl, rfl⟩ := hr; (refine ⟨[], rfl, Mks.nil _, _, (fun w' => results_tmp3 rfl _ _ _), fun w' hs => ⟨_, rfl, Kd.R_nil _ _ _ _ _, below_step ?_ hs.nil⟩⟩); exact (grown_below2 HB7.out HG3.out HM7.out).alloc (Nat.le_trans HB7.out.size HG3.out.size) _
   | some h =>
    have HBK := Aside0.mk hbk
    have hhl : h < H.length := by
     unfold brk at hbk; exact List.mem_range.1 (List.mem_of_find?_eq_some hbk)
    have HHL := Aside0.mk hhl; clear hbk hhl
    have HBC : Aside0 (Calls Try.prog 52 #[.pointer (some ⟨B, 0, none⟩), .int .i64 n] w7 fun e w' => e = .returned (.tuple #[.int .i64 h, .bool true]) ∧ Tn w' B M A0 c0 H A1 c1 S C ∧ w7.grownBy w' (some M)) := ⟨by
     have h := broken.calls B M A0 c0 H A1 c1 S n C _ HT7.out HGD.out HCB.out HH6.out HCL.out HN3.out; unfold brkI at h; rw [HBK.out] at h
     exact h⟩
    (go_wp2_with (go_at_call 52; (with_reducible refine HBC.out.mono ?_); rintro e w3 ⟨rfl, ht, hg⟩; have HG3 := Aside0.mk hg; have HT3 := Aside0.mk ht; clear ht hg)); obtain ⟨g11, hg11⟩ : ∃ g, w3.heap.size = g := ⟨_, rfl⟩; (have HBA := Aside0.mk (show Below w3.heap.size w3 ((w3.alloc (.cells #[.int .i64 (h : Int)] 3)).alloc (.cells #[.int .i64 0] 84)) from ((Below.refl _ w3).alloc (Nat.le_refl _) _).alloc (by simp) _)); (have HV13 := Aside0.mk (show Vr ((w3.alloc (.cells #[.int .i64 (h : Int)] 3)).alloc (.cells #[.int .i64 0] 84)) (g11 + 1) 84 (.int .i64 0) by have := blk_new (w3.alloc (.cells #[.int .i64 (h : Int)] 3)) (.cells #[.int .i64 0] 84); rw [World.size_alloc, hg11] at this; exact this)); (have HV11 := Aside0.mk (show Vr ((w3.alloc (.cells #[.int .i64 (h : Int)] 3)).alloc (.cells #[.int .i64 0] 84)) g11 3 (.int .i64 h) by have := blk_alloc (blk_new w3 (.cells #[.int .i64 (h : Int)] 3)) (.cells #[.int .i64 0] 84); rw [hg11] at this; exact this)); (have HV9a := Aside0.mk (show Vr ((w3.alloc (.cells #[.int .i64 (h : Int)] 3)).alloc (.cells #[.int .i64 0] 84)) g9 88 (.pointer (some ⟨B, 0, none⟩)) from Vr.below (blk_grown HV9.out HG3.out (fun e => ne_map HV9.out HT7.out.mp (Option.some.inj e))) HBA.out)); have HT0 := Aside0.mk (HT3.out.below HBA.out); have HB0 := Aside0.mk (below_step (grown_below2 HB7.out HG3.out HM7.out) HBA.out); (have HGS := Aside0.mk (show w.heap.size ≤ g11 by rw [← hg11]; exact Nat.le_trans HB7.out.size HG3.out.size)); rw [hg11]; generalize (w3.alloc (.cells #[.int .i64 (h : Int)] 3)).alloc (.cells #[.int .i64 0] 84) = w4 at *; clear hg11 HBA h9c; go_step3; go_wp2; (refine wp_loop_ghost_k (fun kq a wr => ∃ u14 u37 u38 u39 u40 u41 u42 u43 u44 u45 u59 dd, (∃ (m : Nat) (Ds : List Nat), u37 = .int .i64 m ∧ dd = Ds.map mkD ∧ kq + m = n + 1 ∧ Aside0 (Mks Ds wr) ∧ Aside0 (∀ D ∈ Ds, w.heap.size ≤ D) ∧ Aside0 (∀ k, k < m → ∀ c ∈ combosM (memI C) k 0, levelB H S h 0 (clrM C c) = true) ∧ Aside0 (Tn wr B M A0 c0 H A1 c1 S C) ∧ Aside0 (Vr wr g9 88 (.pointer (some ⟨B, 0, none⟩))) ∧ Aside0 (Vr wr g11 3 (.int .i64 h)) ∧ Aside0 (Vr wr (g11 + 1) 84 (.int .i64 0)) ∧ Aside0 (Below w.heap.size w wr)) ∧ a = { tmps := #[.agg #[.slice A0 H.length c0, .slice A1 S.length c1], .slice A2 l.length c2, .int .i64 n, .pointer (some ⟨gb, 0, none⟩), undef, undef, .int .i64 0, .slice none 0 0, .int .i64 0, .pointer (some ⟨g9, 0, none⟩), .int .i64 0, .pointer (some ⟨g11, 0, none⟩), .bool true, .pointer (some ⟨g11 + 1, 0, none⟩), u14, undef, .tuple #[.pointer (some ⟨B, 0, none⟩), .int .i64 0], .agg #[.slice A0 H.length c0, .slice A1 S.length c1], .slice A2 l.length c2, .int .i64 n, .bool fb, .tuple #[.pointer (some ⟨B, 0, none⟩), .int .i64 0], .pointer (some ⟨B, 0, none⟩), .int .i64 0, .int .i64 0, .bool false, undef, .tuple #[.int .i64 h, .bool true], .pointer (some ⟨B, 0, none⟩), .int .i64 n, .tuple #[.int .i64 h, .bool true], .int .i64 h, .bool true, .bool true, .bool false, .int .i64 n, .int .i64 ((n : Int) + 1), u37, u38, u39, u40, u41, u42, u43, u44, u45, undef, undef, undef, undef, undef, undef, undef, undef, undef, undef, undef, undef, undef, u59, undef, undef, undef], defers := dd }) (n + 1) ?_ ?_)
    · exact ⟨_, _, _, _, _, _, _, _, _, _, _, _, ⟨0, [], rfl, rfl, by omega, Aside0.mk (Mks.nil _), Aside0.mk (fun D h => by cases h), Aside0.mk (fun k hk => absurd hk (Nat.not_lt_zero k)), HT0, HV9a, HV11, HV13, HB0⟩, rfl⟩
    · rintro kq _ wr ⟨u14, u37, u38, u39, u40, u41, u42, u43, u44, u45, u59, dd, ⟨m, Ds, rfl, rfl, hkm, HMK, HMB, HAL, HTr, H9r, H11r, H13r, HBr⟩, rfl⟩ J K hJ hK; by_cases hm : m < n + 1
      · (have hm' : decide ((m : Int) < (n : Int) + 1) = true := by simp; omega); have h9 := H9r.out.cell; have hB2 : wr.cell? ⟨B, 2, none⟩ = some (.int .i64 C) := (blk_cell HTr.out.bo 2).trans rfl; have hu94 := Try.underlying94; obtain ⟨dd, hdd⟩ : ∃ dd, Ds.map mkD = dd := ⟨_, rfl⟩; have HDD := Aside0.mk hdd; rw [hdd]; clear hdd; (have HSET : Aside0 (Calls Try.prog 69 #[.int .i64 C, .int .i64 m] wr _) := ⟨sets.calls C m wr (Nat.lt_of_lt_of_le HC10.out (by decide))⟩); (go_wp2_with (go_at_call 69; (with_reducible refine HSET.out.mono ?_); rintro e w5 ⟨gl, gm, AL, cL, rfl, vl, vm, cl, hb⟩; have VL := Aside0.mk vl; have VM := Aside0.mk vm; have CL := Aside0.mk cl; have HB5 := Aside0.mk hb; clear vl vm cl hb))
        have HML : Aside0 (M < w5.heap.size) := ⟨by
         obtain ⟨es, cl, h1, _⟩ := HTr.out.mp
         exact Nat.lt_of_lt_of_le (blk_lt h1) HB5.out.size⟩
        (have HDL : Aside0 (∀ D ∈ Ds, D < w5.heap.size) := ⟨fun D hD => Nat.lt_of_lt_of_le (Array.getElem?_eq_some_iff.1 (HMK.out.at_ D hD)).1 HB5.out.size⟩); have HWL : Aside0 (w.heap.size ≤ w5.heap.size) := ⟨Nat.le_trans HBr.out.size HB5.out.size⟩; (have HBI : Aside0 (BI w B M A0 c0 H A1 c1 S C g9 g11 h Ds 0 w5) := ⟨⟨HTr.out.below HB5.out, H9r.out.below HB5.out, H11r.out.below HB5.out, H13r.out.below HB5.out, below_step HBr.out HB5.out, ⟨HMK.out.nd, fun D hD => (HB5.out.block D (Array.getElem?_eq_some_iff.1 (HMK.out.at_ D hD)).1).trans (HMK.out.at_ D hD)⟩⟩⟩); refine (wpIn_wide (n := 9)).1 ?_
        refine wpIn_rangeFunc_ownG rfl (by decide) (gf := 93) (lb := #[.pointer (some ⟨gl, 0, none⟩), .pointer (some ⟨gm, 0, none⟩)]) rfl trivial (enters_ Try.func93 (by kernel_rfl) rfl)
         (sets_stops 8 gl gm AL cL (memI C) (memI_small C) (memI_bd C) m (by omega) w5 VL.out VM.out CL.out) KC.trans (fun W l o o' _ ho hc _ => KC.ofPut ho hc) (Below.refl _ _) (fun _ => rfl)
         (fun pre W => BI w B M A0 c0 H A1 c1 S C g9 g11 h Ds 0 W ∧ w5.heap.size ≤ W.heap.size ∧ ∀ c ∈ pre, levelB H S h 0 (clrM C c) = true)
         (fun c pre W => c = .exit 0 ∧ ∃ q x, pre = q ++ [x] ∧ (∀ c ∈ q, levelB H S h 0 (clrM C c) = true) ∧ levelB H S h 0 (clrM C x) = false ∧ BI w B M A0 c0 H A1 c1 S C g9 g11 h Ds x W)
         (fun s A B' row hs hg hr => ⟨hs.1.grown hg hr HML.out HDL.out HWL.out, Nat.le_trans hs.2.1 hg.size, hs.2.2⟩)
         (fun c s A B' row hs hg hr => by
          obtain ⟨h1, q, x, h2, h3, h4, h5⟩ := hs
          exact ⟨h1, q, x, h2, h3, h4, h5.grown hg hr HML.out HDL.out HWL.out⟩)
         ⟨HBI.out, Nat.le_refl _, fun c hc => by cases hc⟩
         (fun x => { tmps := #[.agg #[.slice A0 H.length c0, .slice A1 S.length c1], .slice A2 l.length c2, .int .i64 n, .pointer (some ⟨gb, 0, none⟩), undef, undef, .int .i64 0, .slice none 0 0, .int .i64 0, .pointer (some ⟨g9, 0, none⟩), .int .i64 0, .pointer (some ⟨g11, 0, none⟩), .bool true, .pointer (some ⟨g11 + 1, 0, none⟩), .int .i64 m, .int .i64 (x : Nat), .tuple #[.pointer (some ⟨B, 0, none⟩), .int .i64 0], .agg #[.slice A0 H.length c0, .slice A1 S.length c1], .slice A2 l.length c2, .int .i64 n, .bool fb, .tuple #[.pointer (some ⟨B, 0, none⟩), .int .i64 0], .pointer (some ⟨B, 0, none⟩), .int .i64 0, .int .i64 0, .bool false, undef, .tuple #[.int .i64 h, .bool true], .pointer (some ⟨B, 0, none⟩), .int .i64 n, .tuple #[.int .i64 h, .bool true], .int .i64 h, .bool true, .bool true, .bool false, .int .i64 n, .int .i64 ((n : Int) + 1), .int .i64 m, .bool true, .int .i64 m, .pointer (some ⟨B, 0, none⟩), .pointer (some ⟨B, 0, none⟩), .pointer (some ⟨B, 2, none⟩), .int .i64 C, .int .i64 m, .func (.func 93) #[] #[.pointer (some ⟨gl, 0, none⟩), .pointer (some ⟨gm, 0, none⟩)], .int .i64 (x : Nat), undef, undef, undef, undef, undef, undef, undef, undef, undef, undef, undef, undef, u59, undef, undef, undef], defers := [] }) ?assign ?body ?done ?stop
        case assign =>
         intro lR x W K hK; gi_wp2; exact hK
        case body =>
         rintro lR pre x W ⟨hI, hsz, hpre⟩ hlen; have HI := Aside0.mk hI; have HSZ := Aside0.mk hsz; have HPF := Aside0.mk hpre; (have HBIT := Aside0.mk (bits_clrM x (Nat.lt_of_lt_of_le HC10.out (by decide)))); (have HLV := Aside0.mk (level.calls B M A0 c0 H A1 c1 S C h 0 (clrM C x) W.drew (HI.out.tn.drewN 1) HGD.out HCB.out HHL.out (clrM_lt x HCL.out HSL.out) (by omega))); obtain ⟨lb, hlb⟩ : ∃ lb, levelB H S h 0 (clrM C x) = lb := ⟨_, rfl⟩; rw [hlb] at HLV; have HLB := Aside0.mk hlb; clear hI hsz hpre hlen hlb; gi_wp2; have hbit := HBIT.out; (refine start_round (l := lR) (by kernel_rfl) (by rintro ⟨_, _, h⟩; exact h) (n := 11) (S := fun w' => w'.cell? ⟨g9, 0, none⟩ = some (.pointer (some ⟨B, 0, none⟩)) ∧ w'.cell? ⟨g11, 0, none⟩ = some (.int .i64 h) ∧ w'.cell? ⟨B, 2, none⟩ = some (.int .i64 C)) (ds := [9]) #[false, false, false, false, false, false, false, false, false, false, false] (by kernel_rfl) rfl rfl ⟨HI.out.v9.cell, HI.out.v11.cell, (blk_cell HI.out.tn.bo 2).trans rfl⟩ (fun hHeld => ?_); refine with_tabW bk13.tab bk13.bits (fun HT_ HW_ => ?_)); (refine take_ (i := 0) (N := some 47) (v := ?_) (a' := ?_) #[true, false, false, false, false, false, false, false, false, false, false] rfl rfl (take_ofW HT_.out HW_.out (by kernel_rfl)) (fun _ _ _ h => h) (Or.inl ⟨by rfl, ?_⟩) hHeld ?_ ?_); rotate_left
         · rintro w' ⟨s0, s1, s2⟩; go_simp; (with_reducible rfl)
         rotate_left
         · simp only [Act.put, List.setIfInBounds_toArray, List.set_cons_zero, List.set_cons_succ, i64_w, i32_w]; rfl
         (refine take_ (i := 1) (N := some 48) (v := ?_) (a' := ?_) #[true, true, false, false, false, false, false, false, false, false, false] rfl rfl (take_ofW HT_.out HW_.out (by kernel_rfl)) (fun _ _ _ h => h) (Or.inl ⟨by rfl, ?_⟩) hHeld ?_ ?_); rotate_left
         · rintro w' ⟨s0, s1, s2⟩; go_simp; (with_reducible rfl)
         rotate_left
         · simp only [Act.put, List.setIfInBounds_toArray, List.set_cons_zero, List.set_cons_succ, i64_w, i32_w]; rfl
         (refine take_ (i := 2) (N := some 49) (v := ?_) (a' := ?_) #[true, true, true, false, false, false, false, false, false, false, false] rfl rfl (take_ofW HT_.out HW_.out (by kernel_rfl)) (fun _ _ _ h => h) (Or.inl ⟨by rfl, ?_⟩) hHeld ?_ ?_); rotate_left
         · rintro w' ⟨s0, s1, s2⟩; go_simp; (with_reducible rfl)
         rotate_left
         · simp only [Act.put, List.setIfInBounds_toArray, List.set_cons_zero, List.set_cons_succ, i64_w, i32_w]; rfl
         (refine pure_ (i := 3) (N := some 50) (v := ?_) (a' := ?_) #[true, true, true, true, false, false, false, false, false, false, false] rfl rfl (any_of HT_.out (by kernel_rfl)) (fun _ _ _ h => h) (Or.inl ⟨by rfl, ?_⟩) ?_ ?_); rotate_left
         · intro w'; go_simp; (with_reducible rfl)
         rotate_left
         · simp only [Act.put, List.setIfInBounds_toArray, List.set_cons_zero, List.set_cons_succ, i64_w, i32_w]; rfl
         (refine pure_ (i := 4) (N := some 51) (v := ?_) (a' := ?_) #[true, true, true, true, true, false, false, false, false, false, false] rfl rfl (any_of HT_.out (by kernel_rfl)) (fun _ _ _ h => h) (Or.inl ⟨by rfl, ?_⟩) ?_ ?_); rotate_left
         · intro w'; go_simp; (with_reducible rfl)
         rotate_left
         · simp only [Act.put, List.setIfInBounds_toArray, List.set_cons_zero, List.set_cons_succ, i64_w, i32_w]; rfl
         (refine take_ (i := 5) (N := some 52) (v := ?_) (a' := ?_) #[true, true, true, true, true, true, false, false, false, false, false] rfl rfl (take_ofW HT_.out HW_.out (by kernel_rfl)) (fun _ _ _ h => h) (Or.inl ⟨by rfl, ?_⟩) hHeld ?_ ?_); rotate_left
         · rintro w' ⟨s0, s1, s2⟩; go_simp; (with_reducible rfl)
         rotate_left
         · simp only [Act.put, List.setIfInBounds_toArray, List.set_cons_zero, List.set_cons_succ, i64_w, i32_w]; rfl
         (refine pure_ (i := 6) (N := some 53) (v := ?_) (a' := ?_) #[true, true, true, true, true, true, true, false, false, false, false] rfl rfl (any_of HT_.out (by kernel_rfl)) (fun _ _ _ h => h) (Or.inl ⟨by rfl, ?_⟩) ?_ ?_); rotate_left
         · intro w'; go_simp; (with_reducible rfl)
         rotate_left
         · simp only [Act.put, List.setIfInBounds_toArray, List.set_cons_zero, List.set_cons_succ, i64_w, i32_w]; rfl
         (refine pure_ (i := 7) (N := some 54) (v := ?_) (a' := ?_) #[true, true, true, true, true, true, true, true, false, false, false] rfl rfl (any_of HT_.out (by kernel_rfl)) (fun _ _ _ h => h) (Or.inl ⟨by rfl, ?_⟩) ?_ ?_); rotate_left
         · intro w'; go_simp; (with_reducible rfl)
         rotate_left
         · simp only [Act.put, List.setIfInBounds_toArray, List.set_cons_zero, List.set_cons_succ, i64_w, i32_w, hbit]; rfl
         (refine pure_ (i := 8) (N := some 55) (v := ?_) (a' := ?_) #[true, true, true, true, true, true, true, true, true, false, false] rfl rfl (any_of HT_.out (by kernel_rfl)) (fun _ _ _ h => h) (Or.inl ⟨by rfl, ?_⟩) ?_ ?_); rotate_left
         · intro w'; go_simp; (with_reducible rfl)
         rotate_left
         · simp only [Act.put, List.setIfInBounds_toArray, List.set_cons_zero, List.set_cons_succ, i64_w, i32_w]; rfl
         (refine last_ (i := 9) (N := some 56) #[true, true, true, true, true, true, true, true, true, true, false] rfl rfl (one_of HT_.out (by kernel_rfl)) (by decide) (fun K hK => ?_)); (refine goes_ Try.func70 (by kernel_rfl) rfl #[.pointer (some ⟨B, 0, none⟩), qV h ((0 : Nat) : Int) (clrM C x)] (by rfl) rfl rfl (by (try simp only [List.map_toArray, List.map_cons, List.map_nil]); first | done | rfl) ?_); (with_reducible refine (HLV.out).mono ?_); rintro e w9 ⟨rfl, ht9, hg9⟩; have HT9 := Aside0.mk ht9; have HG9 := Aside0.mk hg9; clear ht9 hg9; refine ⟨_, rfl, ?_⟩; refine hK.out _ _ ?_; clear hK K; refine norm_ (a' := ?_) ?_ ?_; rotate_left
         · (show Act.put _ (some 56) _ = _); simp only [Act.put, List.setIfInBounds_toArray, List.set_cons_zero, List.set_cons_succ, i64_w, i32_w]; rfl
         (refine pure_ (i := 10) (N := some 57) (v := ?_) (a' := ?_) #[true, true, true, true, true, true, true, true, true, true, true] rfl rfl (any_of HT_.out (by kernel_rfl)) (fun _ _ _ h => h) (Or.inl ⟨by rfl, ?_⟩) ?_ ?_); rotate_left
         · intro w'; go_simp; (with_reducible rfl)
         rotate_left
         · simp only [Act.put, List.setIfInBounds_toArray, List.set_cons_zero, List.set_cons_succ, i64_w, i32_w]; rfl
         (refine done_ (done_of HT_.out (by kernel_rfl)) ?_); clear hbit; have HGW : Aside0 (W.grownBy w9 (some M)) := ⟨⟨HG9.out.os, HG9.out.tape, HG9.out.output, HG9.out.size, HG9.out.block⟩⟩; have HB9 := Aside0.mk (BI.map HI.out HT9.out HGW.out HM7.out); (have HKF := Aside0.mk (KeepsFrom.of_grownBy (B := w5.heap.size) HGW.out (fun j e => by cases e; exact HML.out))); have h13c := HB9.out.v13.cell; have h13f := HB9.out.v13.frozen
         cases lb with
         | true =>
          gi_wp2; refine ⟨HKF.out, KC.ofMap HI.out.tn.mp HGW.out, HB9.out, Nat.le_trans HSZ.out HGW.out.size, ?_⟩; intro c hc; (rcases List.mem_append.1 hc with hc | hc)
          · exact HPF.out c hc
          · rw [List.mem_singleton.1 hc]; exact HLB.out
         | false =>
          gi_wp2; (exact ⟨HKF.out.trans ((KeepsOthers.setCell _ _ _).from _), rfl, pre, x, rfl, HPF.out, HLB.out, HB9.out.set HS0.out HS1.out HGS.out x⟩)
        case done =>
         rintro D xs W hDl rfl ⟨hI, hsz, hxs⟩ hWD; have HI := Aside0.mk hI; have HWD := Aside0.mk hWD; have HXS := Aside0.mk hxs; have HDN := Aside0.mk hDl; clear hI hxs hWD hDl hsz; dsimp only; go_wp2; (refine (Handed.intro (n + 1 - (m + 1)) (by omega) (hJ _ _ _ ⟨_, _, _, _, _, _, _, _, _, _, _, _, ⟨m + 1, D :: Ds, ?_, ?_, by omega, Aside0.mk ⟨?_, ?_⟩, Aside0.mk ?_, Aside0.mk ?_, Aside0.mk HI.out.tn, Aside0.mk HI.out.v9, Aside0.mk HI.out.v11, Aside0.mk HI.out.v13, Aside0.mk HI.out.low⟩, rfl⟩)))
         · exact congrArg (Value.int .i64) (by omega)
         · rw [← HDD.out]; rfl
         · exact List.nodup_cons.2 ⟨fun h => by have := HDL.out D h; have := HDN.out; omega, HMK.out.nd⟩
         · intro E hE; (rcases List.mem_cons.1 hE with rfl | hE)
           · exact HWD.out
           · exact HI.out.mks.at_ E hE
         · intro E hE; (rcases List.mem_cons.1 hE with rfl | hE)
           · exact Nat.le_trans HWL.out HDN.out
           · exact HMB.out E hE
         · intro k hk c hc; (rcases Nat.lt_succ_iff_lt_or_eq.1 hk with h | rfl)
           · exact HAL.out k h c hc
           · exact HXS.out c hc
        case stop =>
         rintro D c pre W hDl hpre ⟨rfl, q, x, rfl, hq, hx, hI⟩ hWD; have HI := Aside0.mk hI; have HWD := Aside0.mk hWD; have HDN := Aside0.mk hDl
         have hxb : x < 2 ^ 62 := by
          obtain ⟨r, hr⟩ := hpre; (have hmem : x ∈ combosM (memI C) m 0 := by rw [← hr]; simp); (exact Nat.lt_of_lt_of_le (combosM_lt (memI_bd C) (by decide) hmem) (by decide))
         have HL16 := Aside0.mk (list_f x hxb 11 (by omega))
         have HBL : Aside0 (breakL H S C h n = memI x) := ⟨by
          obtain ⟨r, hr⟩ := hpre; unfold breakL; (rw [find_break (m := m) (q := q) (x := x) (r := r) (fun k hk c hc => by rw [HAL.out k hk c hc]; rfl) (by omega) (by rw [← hr]; simp) (fun c hc => by rw [hq c hc]; rfl) (by rw [hx]; rfl)])
          rfl⟩
         have HMK2 : Aside0 (Mks (D :: Ds) W) := ⟨⟨List.nodup_cons.2 ⟨fun h => by have := HDL.out D h; omega, HMK.out.nd⟩, fun E hE => by
          rcases List.mem_cons.1 hE with rfl | hE
          · exact hWD
          · exact hI.mks.at_ E hE⟩⟩
         have HMB2 : Aside0 (∀ E ∈ D :: Ds, w.heap.size ≤ E) := ⟨fun E hE => by
          rcases List.mem_cons.1 hE with rfl | hE
          · exact Nat.le_trans HWL.out hDl
          · exact HMB.out E hE⟩
         (have HDD2 : Aside0 (mkD D :: dd = (D :: Ds).map mkD) := ⟨by rw [← HDD.out]; rfl⟩); have H11s := Aside0.mk HI.out.v11; have H13s := Aside0.mk HI.out.v13; clear hI hWD hDl hq hx hxb hpre; refine wpIn_exit ?_; dsimp only; go_wp2; (refine start_ (n := 6) (S := fun w' => w'.cell? ⟨g11, 0, none⟩ = some (.int .i64 h) ∧ w'.cell? ⟨g11 + 1, 0, none⟩ = some (.int .i64 (x : Nat))) (ds := []) #[false, false, false, false, false, false] (by kernel_rfl) rfl rfl ⟨H11s.out.cell, H13s.out.cell⟩ (fun hHeld => ?_); refine with_tabW bk16.tab bk16.bits (fun HT_ HW_ => ?_)); (refine take_ (i := 0) (N := some 60) (v := ?_) (a' := ?_) #[true, false, false, false, false, false] rfl rfl (take_ofW HT_.out HW_.out (by kernel_rfl)) (fun _ _ _ h => h) (Or.inl ⟨by rfl, ?_⟩) hHeld ?_ ?_); rotate_left
         · rintro w' ⟨s0, s1⟩; go_simp; (with_reducible rfl)
         rotate_left
         · simp only [Act.put, List.setIfInBounds_toArray, List.set_cons_zero, List.set_cons_succ, i64_w, i32_w]; rfl
         (refine take_ (i := 1) (N := some 61) (v := ?_) (a' := ?_) #[true, true, false, false, false, false] rfl rfl (take_ofW HT_.out HW_.out (by kernel_rfl)) (fun _ _ _ h => h) (Or.inl ⟨by rfl, ?_⟩) hHeld ?_ ?_); rotate_left
         · rintro w' ⟨s0, s1⟩; go_simp; (with_reducible rfl)
         rotate_left
         · simp only [Act.put, List.setIfInBounds_toArray, List.set_cons_zero, List.set_cons_succ, i64_w, i32_w]; rfl
         (refine one_ (i := 2) (N := some 62) #[true, true, true, false, false, false] rfl rfl (one_of HT_.out (by kernel_rfl)) (by decide) (fun K hK => ?_)); (refine goes_ Try.func49 (by kernel_rfl) rfl #[.int .i64 ((x : Nat) : Int)] (by rfl) rfl rfl (by (try simp only [List.map_toArray, List.map_cons, List.map_nil]); first | done | rfl) ?_); (with_reducible refine (cool_set_list.calls 11 ((x : Nat) : Int) (memI x) _ HL16.out).mono ?_); rintro e w9 ⟨v9, rfl, hr9, hb9⟩; have HR9 := Aside0.mk hr9; have HB9 := Aside0.mk hb9; clear hr9 hb9; refine ⟨_, rfl, ?_⟩; (refine hK.out _ _ ⟨(Vr.below (w := (W).drew) H11s.out HB9.out).cell, (Vr.below (w := (W).drew) H13s.out HB9.out).cell⟩ (fun hHeld => ?_)); clear hK K; refine norm_ (a' := ?_) ?_ ?_; rotate_left
         · (show Act.put _ (some 62) _ = _); simp only [Act.put, List.setIfInBounds_toArray, List.set_cons_zero, List.set_cons_succ, i64_w, i32_w]; rfl
         (refine pure_ (i := 3) (N := some 6) (v := ?_) (a' := ?_) #[true, true, true, true, false, false] rfl rfl (any_of HT_.out (by kernel_rfl)) (fun _ _ _ h => h) (Or.inl ⟨by rfl, ?_⟩) ?_ ?_); rotate_left
         · intro w'; go_simp; (with_reducible rfl)
         rotate_left
         · simp only [Act.put, List.setIfInBounds_toArray, List.set_cons_zero, List.set_cons_succ, i64_w, i32_w]; rfl
         (refine pure_ (i := 4) (N := some 7) (v := ?_) (a' := ?_) #[true, true, true, true, true, false] rfl rfl (any_of HT_.out (by kernel_rfl)) (fun _ _ _ h => h) (Or.inl ⟨by rfl, ?_⟩) ?_ ?_); rotate_left
         · intro w'; go_simp; (with_reducible rfl)
         rotate_left
         · simp only [Act.put, List.setIfInBounds_toArray, List.set_cons_zero, List.set_cons_succ, i64_w, i32_w]; rfl
         (refine pure_ (i := 5) (N := some 8) (v := ?_) (a' := ?_) #[true, true, true, true, true, true] rfl rfl (any_of HT_.out (by kernel_rfl)) (fun _ _ _ h => h) (Or.inl ⟨by rfl, ?_⟩) ?_ ?_); rotate_left
         · intro w'; go_simp; (with_reducible rfl)
         rotate_left
         · simp only [Act.put, List.setIfInBounds_toArray, List.set_cons_zero, List.set_cons_succ, i64_w, i32_w]; rfl
         (refine done_ (done_of HT_.out (by kernel_rfl)) ?_); go_wp2; rw [Exit.noGoto_ret]; have hr := HR.out; have hfb := HFB.out; have hgo := HGO.out; unfold breakV at hr; rw [hfb, hgo] at hr; simp only [Int.toNat_natCast, HBK.out, Prod.mk.injEq] at hr; obtain ⟨rfl, rfl, rfl⟩ := hr; (have hmk9 : Mks (D :: Ds) w9 := ⟨HMK2.out.nd, fun D hD => (HB9.out.block D (Array.getElem?_eq_some_iff.1 (HMK2.out.at_ D hD)).1).trans (HMK2.out.at_ D hD)⟩); (refine ⟨D :: Ds, HDD2.out, hmk9, _, (fun w' => results_tmp3 rfl _ _ _), fun w' hs => ⟨_, rfl, ?_, shts_below (below_step (HI.out.low.drew) HB9.out) hs HMB2.out⟩⟩); rw [HBL.out]; exact RI_shts (Kd.R_lower HR9.out (HI.out.low.size)) hmk9 hs
      · (have hm' : decide ((m : Int) < (n : Int) + 1) = false := by simp; omega); obtain ⟨dd, hdd⟩ : ∃ dd, Ds.map mkD = dd := ⟨_, rfl⟩; have HDD := Aside0.mk hdd; rw [hdd]; clear hdd; go_wp2; (have HL16 := Aside0.mk (list_f 0 (by decide) 11 (by omega)))
        have HBL : Aside0 (breakL H S C h n = memI 0) := ⟨by
         unfold breakL; (rw [find_none (fun k hk c hc => by rw [HAL.out k (by omega) c hc]; rfl)])
         rfl⟩
        (refine start_ (n := 6) (S := fun w' => w'.cell? ⟨g11, 0, none⟩ = some (.int .i64 h) ∧ w'.cell? ⟨g11 + 1, 0, none⟩ = some (.int .i64 (0 : Nat))) (ds := []) #[false, false, false, false, false, false] (by kernel_rfl) rfl rfl ⟨H11r.out.cell, H13r.out.cell⟩ (fun hHeld => ?_); refine with_tabW bk16.tab bk16.bits (fun HT_ HW_ => ?_)); (refine take_ (i := 0) (N := some 60) (v := ?_) (a' := ?_) #[true, false, false, false, false, false] rfl rfl (take_ofW HT_.out HW_.out (by kernel_rfl)) (fun _ _ _ h => h) (Or.inl ⟨by rfl, ?_⟩) hHeld ?_ ?_); rotate_left
        · rintro w' ⟨s0, s1⟩; go_simp; (with_reducible rfl)
        rotate_left
        · simp only [Act.put, List.setIfInBounds_toArray, List.set_cons_zero, List.set_cons_succ, i64_w, i32_w]; rfl
        (refine take_ (i := 1) (N := some 61) (v := ?_) (a' := ?_) #[true, true, false, false, false, false] rfl rfl (take_ofW HT_.out HW_.out (by kernel_rfl)) (fun _ _ _ h => h) (Or.inl ⟨by rfl, ?_⟩) hHeld ?_ ?_); rotate_left
        · rintro w' ⟨s0, s1⟩; go_simp; (with_reducible rfl)
        rotate_left
        · simp only [Act.put, List.setIfInBounds_toArray, List.set_cons_zero, List.set_cons_succ, i64_w, i32_w]; rfl
        (refine one_ (i := 2) (N := some 62) #[true, true, true, false, false, false] rfl rfl (one_of HT_.out (by kernel_rfl)) (by decide) (fun K hK => ?_)); (refine goes_ Try.func49 (by kernel_rfl) rfl #[.int .i64 ((0 : Nat) : Int)] (by rfl) rfl rfl (by (try simp only [List.map_toArray, List.map_cons, List.map_nil]); first | done | rfl) ?_); (with_reducible refine (cool_set_list.calls 11 ((0 : Nat) : Int) (memI 0) _ HL16.out).mono ?_); rintro e w9 ⟨v9, rfl, hr9, hb9⟩; have HR9 := Aside0.mk hr9; have HB9 := Aside0.mk hb9; clear hr9 hb9; refine ⟨_, rfl, ?_⟩; (refine hK.out _ _ ⟨(Vr.below (w := (wr).drew) H11r.out HB9.out).cell, (Vr.below (w := (wr).drew) H13r.out HB9.out).cell⟩ (fun hHeld => ?_)); clear hK K; refine norm_ (a' := ?_) ?_ ?_; rotate_left
        · (show Act.put _ (some 62) _ = _); simp only [Act.put, List.setIfInBounds_toArray, List.set_cons_zero, List.set_cons_succ, i64_w, i32_w]; rfl
        (refine pure_ (i := 3) (N := some 6) (v := ?_) (a' := ?_) #[true, true, true, true, false, false] rfl rfl (any_of HT_.out (by kernel_rfl)) (fun _ _ _ h => h) (Or.inl ⟨by rfl, ?_⟩) ?_ ?_); rotate_left
        · intro w'; go_simp; (with_reducible rfl)
        rotate_left
        · simp only [Act.put, List.setIfInBounds_toArray, List.set_cons_zero, List.set_cons_succ, i64_w, i32_w]; rfl
        (refine pure_ (i := 4) (N := some 7) (v := ?_) (a' := ?_) #[true, true, true, true, true, false] rfl rfl (any_of HT_.out (by kernel_rfl)) (fun _ _ _ h => h) (Or.inl ⟨by rfl, ?_⟩) ?_ ?_); rotate_left
        · intro w'; go_simp; (with_reducible rfl)
        rotate_left
        · simp only [Act.put, List.setIfInBounds_toArray, List.set_cons_zero, List.set_cons_succ, i64_w, i32_w]; rfl
        (refine pure_ (i := 5) (N := some 8) (v := ?_) (a' := ?_) #[true, true, true, true, true, true] rfl rfl (any_of HT_.out (by kernel_rfl)) (fun _ _ _ h => h) (Or.inl ⟨by rfl, ?_⟩) ?_ ?_); rotate_left
        · intro w'; go_simp; (with_reducible rfl)
        rotate_left
        · simp only [Act.put, List.setIfInBounds_toArray, List.set_cons_zero, List.set_cons_succ, i64_w, i32_w]; rfl
        (refine done_ (done_of HT_.out (by kernel_rfl)) ?_); go_wp2; rw [Exit.noGoto_ret]; have hr := HR.out; have hfb := HFB.out; have hgo := HGO.out; unfold breakV at hr; rw [hfb, hgo] at hr; simp only [Int.toNat_natCast, HBK.out, Prod.mk.injEq] at hr; obtain ⟨rfl, rfl, rfl⟩ := hr; (have hmk9 : Mks (Ds) w9 := ⟨HMK.out.nd, fun D hD => (HB9.out.block D (Array.getElem?_eq_some_iff.1 (HMK.out.at_ D hD)).1).trans (HMK.out.at_ D hD)⟩); (refine ⟨Ds, HDD.out.symm, hmk9, _, (fun w' => results_tmp3 rfl _ _ _), fun w' hs => ⟨_, rfl, ?_, shts_below (below_step (HBr.out.drew) HB9.out) hs HMB.out⟩⟩); rw [HBL.out]; exact RI_shts (Kd.R_lower HR9.out (HBr.out.size)) hmk9 hs
end Go.Proofs.Ytmkdllaagaimlaa.C
end
section
namespace Go.Proofs.Ytmkdllaagaimlaa.C
open Go.RowKit Go.Proofs.YtmkdllaagaimlaaW.PrintWords Go.Proofs.YtmkdllaagaimlaaW.PrintLast Go.Proofs.YtmkdllaagaimlaaW.PrintMore
set_option linter.unusedVariables false
set_option linter.unusedSimpArgs false
def HX : List S60 := [⟨⟨80, 100⟩, 3⟩, ⟨⟨50, 60⟩, 5⟩]
def SX : List S64 := [⟨300, 2, [⟨60, 70⟩, ⟨0, 0⟩]⟩, ⟨500, 3, [⟨50, 60⟩, ⟨40, 50⟩]⟩, ⟨400, 1, [⟨0, 0⟩, ⟨60, 80⟩]⟩, ⟨450, 4, [⟨50, 55⟩, ⟨30, 35⟩]⟩]
structure TF (w : World) (A0 : Option Addr) (c0 : Nat) (A1 : Option Addr) (c1 : Nat) : Prop where
  h0 : Kd.C k60 w A0 HX.length HX
  l0 : HX.length ≤ c0
  h1 : Kd.C k64 w A1 SX.length SX
  l1 : SX.length ≤ c1
theorem TF.below {w w' : World} {A0 : Option Addr} {c0 : Nat} {A1 : Option Addr} {c1 : Nat} (h : TF w A0 c0 A1 c1) (hb : Below w.heap.size w w') : TF w' A0 c0 A1 c1 := ⟨Kd.C_below h.h0 hb, h.l0, Kd.C_below h.h1 hb, h.l1⟩
structure LF (w : World) (A : Option Addr) (c : Nat) (xs : List Int) : Prop where
  h : Kd.C (Kd.int .i64) w A xs.length xs
  l : xs.length ≤ c
theorem LF.below {w w' : World} {A : Option Addr} {c : Nat} {xs : List Int} (h : LF w A c xs) (hb : Below w.heap.size w w') : LF w' A c xs := ⟨Kd.C_below h.h hb, h.l⟩
structure KF (w0 w : World) (L : List (Option Addr × Nat × List Int)) : Prop where
  b : Below w0.heap.size w0 w
  f : ∀ p ∈ L, LF w p.1 p.2.1 p.2.2
theorem KF.below {w0 w w' : World} {L : List (Option Addr × Nat × List Int)} (h : KF w0 w L) (hb : Below w.heap.size w w') : KF w0 w' L := ⟨below_step h.b hb, fun p hp => (h.f p hp).below hb⟩
theorem KF.drewN {w0 w : World} {L : List (Option Addr × Nat × List Int)} (h : KF w0 w L) (n : Nat) : KF w0 (w.drewN n) L := h.below (pw_below_drewN (Below.refl _ _) n)
theorem KF.add {w0 w : World} {L : List (Option Addr × Nat × List Int)} {A : Option Addr} {c : Nat} {xs : List Int} (h : KF w0 w L) (hl : LF w A c xs) : KF w0 w ((A, c, xs) :: L) := ⟨h.b, fun p hp => by
  rcases List.mem_cons.1 hp with rfl | hp
  · exact hl
  · exact h.f p hp⟩
theorem KF.get {w0 w : World} {L : List (Option Addr × Nat × List Int)} {A : Option Addr} {c : Nat} {xs : List Int} (h : KF w0 w L) (i : Nat) (hi : L[i]? = some (A, c, xs)) : LF w A c xs := h.f _ (List.mem_of_getElem? hi)
section
variable {P : Program} {ops : Array Oper} {rest : List Oper} {o : Oper} {a : Act} {Q : Exit → Act → World → Prop} {W : World}
theorem lit_c (xs : List Int) {N : Tmp} (hgd : o.guard = none) (hd : o.dst = some N) (hrun : (execOp a.eval o).run P W = .ok (.value (.slice (some ⟨W.heap.size, 0, none⟩) xs.length xs.length)) (W.alloc (.cells (xs.map (Value.int .i64)).toArray 3)))
    (h : ∀ A c w1, LF w1 A c xs → Below W.heap.size W w1 → wpList P ops Q rest (a.put o.dst (.slice A xs.length c)) w1) (hm : xs.length ≤ 1000 := by decide) : wpList P ops Q (o :: rest) a W := by
 refine Kd.R_lit (Kd.int .i64) (w0 := W) W.heap.size 3 hgd (N := N) hd (xs := xs) (inner := xs.map (Value.int .i64)) (ok := fun _ => True) (okp := fun _ => True) hrun ?_ (fun _ hk => hk) trivial (Below.refl _ _) (Nat.le_refl _) (by omega) ?_
 · (refine ⟨by show (xs.map (Value.int .i64)).length = xs.length * 1; simp, fun j p hj => ?_⟩); (show List.take 1 (List.drop (j * 1) (xs.map (Value.int .i64))) = [.int .i64 p]); obtain ⟨hl, rfl⟩ := List.getElem?_eq_some_iff.1 hj; (rw [Nat.mul_one, List.drop_eq_getElem_cons (by simpa using hl)]); simp
 · intro v1 w1 hr hb _ _; obtain ⟨A, c, rfl, hc, hrd⟩ := Kd.R_reads hr; exact h A c w1 ⟨hrd, hc⟩ hb
end
theorem T_c (W : World) : Calls Try.prog 46 #[] W fun e w' => ∃ A0 c0 A1 c1, e = .returned (.agg #[.slice A0 2 c0, .slice A1 4 c1]) ∧ TF w' A0 c0 A1 c1 ∧ Below W.heap.size W w' := by
 refine (taliklaw03_T.calls HX SX W rfl).mono ?_; rintro e w' ⟨v0, v1, rfl, h0, h1, hb⟩; obtain ⟨A0, c0, rfl, l0, g0⟩ := Kd.R_reads h0; obtain ⟨A1, c1, rfl, l1, g1⟩ := Kd.N_reads h1; exact ⟨A0, c0, A1, c1, rfl, ⟨g0, l0, g1, l1⟩, hb⟩
theorem k_keeps (W : World) (A0 : Option Addr) (c0 : Nat) (A1 : Option Addr) (c1 : Nat) (L0 : Option Addr) (d0 : Nat) (ht : TF W A0 c0 A1 c1) (h0 : LF W L0 d0 [1, 3]) : Calls Try.prog 23 #[.agg #[.slice A0 2 c0, .slice A1 4 c1], .slice L0 2 d0, .int .i64 0] W fun e w' => e = .returned (.tuple #[.bool true, .int .i64 0]) ∧ Below W.heap.size W w' := by
 exact cool_Keeps.calls A0 c0 HX A1 c1 SX L0 d0 [1, 3] 0 true 0 W ht.h0 ht.l0 ht.h1 ht.l1 h0.h h0.l (by decide +kernel)
theorem k_break (W : World) (A0 : Option Addr) (c0 : Nat) (A1 : Option Addr) (c1 : Nat) (L0 : Option Addr) (d0 : Nat) (ht : TF W A0 c0 A1 c1) (h0 : LF W L0 d0 [1, 3]) : Calls Try.prog 38 #[.agg #[.slice A0 2 c0, .slice A1 4 c1], .slice L0 2 d0, .int .i64 1] W fun e w' => ∃ A c, e = .returned (.tuple #[.int .i64 0, .slice A 1 c, .int .i64 0]) ∧ LF w' A c [1] ∧ Below W.heap.size W w' := by
 (refine (cool_Break.calls A0 c0 HX A1 c1 SX L0 d0 [1, 3] 1 0 [1] 0 W ht.h0 ht.l0 ht.h1 ht.l1 h0.h h0.l (by decide +kernel)).mono ?_); rintro e w' ⟨v, rfl, hr, hb⟩; obtain ⟨A, c, rfl, hc, hrd⟩ := Kd.R_reads hr; exact ⟨A, c, rfl, ⟨hrd, hc⟩, hb⟩
theorem k_bears (W : World) (A0 : Option Addr) (c0 : Nat) (A1 : Option Addr) (c1 : Nat) (L0 : Option Addr) (d0 : Nat) (ht : TF W A0 c0 A1 c1) (h0 : LF W L0 d0 [0, 1, 2, 3]) : Calls Try.prog 39 #[.agg #[.slice A0 2 c0, .slice A1 4 c1], .slice L0 4 d0] W fun e w' => e = .returned (.tuple #[.int .i64 1, .int .i64 0]) ∧ Below W.heap.size W w' := by
 exact cool_Bears.calls A0 c0 HX A1 c1 SX L0 d0 [0, 1, 2, 3] 1 0 W ht.h0 ht.l0 ht.h1 ht.l1 h0.h h0.l (by decide +kernel)
theorem k_best (W : World) (A0 : Option Addr) (c0 : Nat) (A1 : Option Addr) (c1 : Nat) (ht : TF W A0 c0 A1 c1) : Calls Try.prog 15 #[.agg #[.slice A0 2 c0, .slice A1 4 c1], .int .i64 0] W fun e w' => ∃ A c, e = .returned (.tuple #[.slice A 2 c, .int .i64 950, .int .i64 0]) ∧ LF w' A c [1, 3] ∧ Below W.heap.size W w' := by
 (refine (cool_Best.calls A0 c0 HX A1 c1 SX 0 [1, 3] 950 0 W ht.h0 ht.l0 ht.h1 ht.l1 (by decide +kernel)).mono ?_); rintro e w' ⟨v, rfl, hr, hb⟩; obtain ⟨A, c, rfl, hc, hrd⟩ := Kd.R_reads hr; exact ⟨A, c, rfl, ⟨hrd, hc⟩, hb⟩
theorem k_floor (W : World) (A0 : Option Addr) (c0 : Nat) (A1 : Option Addr) (c1 : Nat) (ht : TF W A0 c0 A1 c1) : Calls Try.prog 16 #[.agg #[.slice A0 2 c0, .slice A1 4 c1], .int .i64 1] W fun e w' => e = .returned (.tuple #[.int .i64 3, .int .i64 0]) ∧ Below W.heap.size W w' := by
 exact cool_Floor.calls A0 c0 HX A1 c1 SX 1 3 0 W ht.h0 ht.l0 ht.h1 ht.l1 (by decide +kernel)
theorem k_again (W : World) (A0 : Option Addr) (c0 : Nat) (A1 : Option Addr) (c1 : Nat) (L0 : Option Addr) (d0 : Nat) (L1 : Option Addr) (d1 : Nat) (ht : TF W A0 c0 A1 c1) (h0 : LF W L0 d0 [0, 1, 2, 3]) (h1 : LF W L1 d1 [3, 1]) : Calls Try.prog 26 #[.agg #[.slice A0 2 c0, .slice A1 4 c1], .slice L0 4 d0, .slice L1 2 d1] W fun e w' => ∃ A c, e = .returned (.tuple #[.slice A 2 c, .int .i64 0]) ∧ LF w' A c [4, 0] ∧ Below W.heap.size W w' := by
 (refine (cool_Again.calls A0 c0 HX A1 c1 SX L0 d0 [0, 1, 2, 3] L1 d1 [3, 1] [4, 0] 0 W ht.h0 ht.l0 ht.h1 ht.l1 h0.h h0.l h1.h h1.l (by decide +kernel)).mono ?_); rintro e w' ⟨v, rfl, hr, hb⟩; obtain ⟨A, c, rfl, hc, hrd⟩ := Kd.R_reads hr; exact ⟨A, c, rfl, ⟨hrd, hc⟩, hb⟩
theorem k_repair (W : World) (A0 : Option Addr) (c0 : Nat) (A1 : Option Addr) (c1 : Nat) (L0 : Option Addr) (d0 : Nat) (L1 : Option Addr) (d1 : Nat) (ht : TF W A0 c0 A1 c1) (h0 : LF W L0 d0 [0, 1, 2, 3]) (h1 : LF W L1 d1 [1, 3]) : Calls Try.prog 29 #[.agg #[.slice A0 2 c0, .slice A1 4 c1], .slice L0 4 d0, .slice L1 2 d1] W fun e w' => ∃ A c, e = .returned (.tuple #[.slice A 2 c, .int .i64 0]) ∧ LF w' A c [1, 3] ∧ Below W.heap.size W w' := by
 (refine (cool_Repair.calls A0 c0 HX A1 c1 SX L0 d0 [0, 1, 2, 3] L1 d1 [1, 3] [1, 3] 0 W ht.h0 ht.l0 ht.h1 ht.l1 h0.h h0.l h1.h h1.l (by decide +kernel)).mono ?_); rintro e w' ⟨v, rfl, hr, hb⟩; obtain ⟨A, c, rfl, hc, hrd⟩ := Kd.R_reads hr; exact ⟨A, c, rfl, ⟨hrd, hc⟩, hb⟩
theorem same_self (xs : List Int) (h : xs.length ≤ 5) : talikref03_Same.f 7 xs xs = some true := by
 have key : ∀ (d i : Nat), i + d = xs.length → ∀ k, d < k → talikref03_Same.l0 k xs xs i = some true := by
  intro d
  induction d with
  | zero =>
   intro i hi k hk; (obtain ⟨k, rfl⟩ : ∃ m, k = m + 1 := ⟨k - 1, by omega⟩); (simp only [talikref03_Same.l0]; rw [if_neg (by omega)])
  | succ d ih =>
   intro i hi k hk; (obtain ⟨k, rfl⟩ : ∃ m, k = m + 1 := ⟨k - 1, by omega⟩); simp only [talikref03_Same.l0]; (rw [if_pos (by omega), if_pos (by omega), if_pos (by omega), if_pos trivial]); (rw [show wrap64 ((i : Int) + 1) = ((i + 1 : Nat) : Int) by rw [wrap64_of _ (by omega) (by omega)]; omega]); (exact ih (i + 1) (by omega) k (by omega))
 unfold talikref03_Same.f; rw [if_pos rfl]; (exact key xs.length 0 (by omega) 7 (by omega))
theorem k_same (W : World) (A : Option Addr) (c : Nat) (xs : List Int) (B : Option Addr) (d n : Nat) (h0 : LF W A c xs) (h1 : LF W B d xs) (hn : xs.length = n) (hx : n ≤ 5) : Calls Try.prog 20 #[.slice A n c, .slice B n d] W fun e w' => e = .returned (.bool true) ∧ ∃ n, w' = W.drewN n := by
 subst hn; refine (talikref03_Same.calls 7 A c xs B d xs true W h0.h h0.l h1.h h1.l (same_self xs hx)).mono ?_; rintro e w' ⟨rfl, ⟨nd, rfl⟩⟩; exact ⟨rfl, nd, rfl⟩
def taliklaw03_known.f (k : Nat) : Option Bool := some true
set_option maxHeartbeats 4000000 in
set_option maxRecDepth 100000 in
theorem taliklaw03_known.calls (k : Nat) (r : Bool) (w : World) (h : taliklaw03_known.f k = some r) :
    Calls Try.prog 14 #[] w fun e w' => e = .returned (.bool r) ∧ Below w.heap.size w w' := by
 cases h; (have HK := Aside0.mk (show KF w w [] from ⟨Below.refl _ _, fun p hp => by cases hp⟩)); go_enter Try.func14, Try.ntmps14; (go_wp2_with (first | (go_at_call 46; (with_reducible refine (T_c _).mono ?_); rintro e wT ⟨A0, c0, A1, c1, rfl, ht, hb⟩; have HT := Aside0.mk ht; have n_ := Aside0.mk (HK.out.below hb); clear HK; have HK := n_; clear n_; clear ht hb) | ((with_reducible refine gate_dst (N := 19) rfl ?_); (try (refine gate_guard (by rfl) ?_; dsimp only)); refine lit_c ([1, 3] : List Int) (N := 19) ?hg ?hd ?hr ?_; (case hd => rfl); (case hg => rfl); (case hr => first | (go_simp; done) | (go_simp; rfl)); intro ALa cLa wLa hc hb; have HLa := Aside0.mk hc; have n_ := Aside0.mk (HK.out.below hb); clear HK; have HK := n_; clear n_; have n_ := Aside0.mk (HT.out.below hb); clear HT; have HT := n_; clear n_; clear hc hb) | (go_at_call 23; (with_reducible refine (k_keeps _ _ _ _ _ _ _ HT.out HLa.out).mono ?_); rintro e wF ⟨rfl, hb⟩;  have n_ := Aside0.mk (HK.out.below hb); clear HK; have HK := n_; clear n_; clear HLa; clear hb HT) | ((with_reducible refine gate_dst (N := 25) rfl ?_); (try (refine gate_guard (by rfl) ?_; dsimp only)); refine lit_c ([1, 3] : List Int) (N := 25) ?hg ?hd ?hr ?_; (case hd => rfl); (case hg => rfl); (case hr => first | (go_simp; done) | (go_simp; rfl)); intro ALb cLb wLb hc hb; have HLb := Aside0.mk hc; have n_ := Aside0.mk (HK.out.below hb); clear HK; have HK := n_; clear n_; have n_ := Aside0.mk (HT.out.below hb); clear HT; have HT := n_; clear n_; clear hc hb) | (go_at_call 38; (with_reducible refine (k_break _ _ _ _ _ _ _ HT.out HLb.out).mono ?_); rintro e wF ⟨A4, c4, rfl, hc, hb⟩;  have n_ := Aside0.mk (HK.out.below hb); clear HK; have HK := n_; clear n_; have n_ := Aside0.mk (HK.out.add hc); clear HK hc; have HK := n_; clear n_; clear HLb; clear hb HT) | ((with_reducible refine gate_dst (N := 32) rfl ?_); (try (refine gate_guard (by rfl) ?_; dsimp only)); refine lit_c ([0, 1, 2, 3] : List Int) (N := 32) ?hg ?hd ?hr ?_; (case hd => rfl); (case hg => rfl); (case hr => first | (go_simp; done) | (go_simp; rfl)); intro ALc cLc wLc hc hb; have HLc := Aside0.mk hc; have n_ := Aside0.mk (HK.out.below hb); clear HK; have HK := n_; clear n_; have n_ := Aside0.mk (HT.out.below hb); clear HT; have HT := n_; clear n_; clear hc hb) | (go_at_call 39; (with_reducible refine (k_bears _ _ _ _ _ _ _ HT.out HLc.out).mono ?_); rintro e wF ⟨rfl, hb⟩;  have n_ := Aside0.mk (HK.out.below hb); clear HK; have HK := n_; clear n_; clear HLc; clear hb HT) | (go_at_call 15; (with_reducible refine (k_best _ _ _ _ _ HT.out).mono ?_); rintro e wF ⟨A8, c8, rfl, hc, hb⟩;  have n_ := Aside0.mk (HK.out.below hb); clear HK; have HK := n_; clear n_; have n_ := Aside0.mk (HK.out.add hc); clear HK hc; have HK := n_; clear n_; clear hb HT) | (go_at_call 16; (with_reducible refine (k_floor _ _ _ _ _ HT.out).mono ?_); rintro e wF ⟨rfl, hb⟩;  have n_ := Aside0.mk (HK.out.below hb); clear HK; have HK := n_; clear n_; clear hb HT) | ((with_reducible refine gate_dst (N := 49) rfl ?_); (try (refine gate_guard (by rfl) ?_; dsimp only)); refine lit_c ([0, 1, 2, 3] : List Int) (N := 49) ?hg ?hd ?hr ?_; (case hd => rfl); (case hg => rfl); (case hr => first | (go_simp; done) | (go_simp; rfl)); intro ALd cLd wLd hc hb; have HLd := Aside0.mk hc; have n_ := Aside0.mk (HK.out.below hb); clear HK; have HK := n_; clear n_; have n_ := Aside0.mk (HT.out.below hb); clear HT; have HT := n_; clear n_; clear hc hb) | ((with_reducible refine gate_dst (N := 50) rfl ?_); (try (refine gate_guard (by rfl) ?_; dsimp only)); refine lit_c ([3, 1] : List Int) (N := 50) ?hg ?hd ?hr ?_; (case hd => rfl); (case hg => rfl); (case hr => first | (go_simp; done) | (go_simp; rfl)); intro ALe cLe wLe hc hb; have HLe := Aside0.mk hc; have n_ := Aside0.mk (HK.out.below hb); clear HK; have HK := n_; clear n_; have n_ := Aside0.mk (HT.out.below hb); clear HT; have HT := n_; clear n_; have n_ := Aside0.mk (HLd.out.below hb); clear HLd; have HLd := n_; clear n_; clear hc hb) | (go_at_call 26; (with_reducible refine (k_again _ _ _ _ _ _ _ _ _ HT.out HLd.out HLe.out).mono ?_); rintro e wF ⟨A13, c13, rfl, hc, hb⟩;  have n_ := Aside0.mk (HK.out.below hb); clear HK; have HK := n_; clear n_; have n_ := Aside0.mk (HK.out.add hc); clear HK hc; have HK := n_; clear n_; clear HLd HLe; clear hb HT) | ((with_reducible refine gate_dst (N := 56) rfl ?_); (try (refine gate_guard (by rfl) ?_; dsimp only)); refine lit_c ([0, 1, 2, 3] : List Int) (N := 56) ?hg ?hd ?hr ?_; (case hd => rfl); (case hg => rfl); (case hr => first | (go_simp; done) | (go_simp; rfl)); intro ALf cLf wLf hc hb; have HLf := Aside0.mk hc; have n_ := Aside0.mk (HK.out.below hb); clear HK; have HK := n_; clear n_; have n_ := Aside0.mk (HT.out.below hb); clear HT; have HT := n_; clear n_; clear hc hb) | ((with_reducible refine gate_dst (N := 57) rfl ?_); (try (refine gate_guard (by rfl) ?_; dsimp only)); refine lit_c ([1, 3] : List Int) (N := 57) ?hg ?hd ?hr ?_; (case hd => rfl); (case hg => rfl); (case hr => first | (go_simp; done) | (go_simp; rfl)); intro ALg cLg wLg hc hb; have HLg := Aside0.mk hc; have n_ := Aside0.mk (HK.out.below hb); clear HK; have HK := n_; clear n_; have n_ := Aside0.mk (HT.out.below hb); clear HT; have HT := n_; clear n_; have n_ := Aside0.mk (HLf.out.below hb); clear HLf; have HLf := n_; clear n_; clear hc hb) | (go_at_call 29; (with_reducible refine (k_repair _ _ _ _ _ _ _ _ _ HT.out HLf.out HLg.out).mono ?_); rintro e wF ⟨A15, c15, rfl, hc, hb⟩;  have n_ := Aside0.mk (HK.out.below hb); clear HK; have HK := n_; clear n_; have n_ := Aside0.mk (HK.out.add hc); clear HK hc; have HK := n_; clear n_; clear HLf HLg; clear hb HT) | ((with_reducible refine gate_dst (N := 94) rfl ?_); (try (refine gate_guard (by rfl) ?_; dsimp only)); refine lit_c ([1] : List Int) (N := 94) ?hg ?hd ?hr ?_; (case hd => rfl); (case hg => rfl); (case hr => first | (go_simp; done) | (go_simp; rfl)); intro ASa cSa wSa hc hb; have HSa := Aside0.mk hc; have n_ := Aside0.mk (HK.out.below hb); clear HK; have HK := n_; clear n_; clear hc hb) | (go_at_call 20; (with_reducible refine (k_same _ A4 c4 ([1] : List Int) ASa cSa 1 ?sg HSa.out ?sn ?sd).mono ?_); (case sg => exact HK.out.get 3 rfl); (case sn => rfl); (case sd => decide); rintro e w' ⟨rfl, nd, rfl⟩; have n_ := Aside0.mk (HK.out.drewN nd); clear HK; have HK := n_; clear n_; clear HSa) | ((with_reducible refine gate_dst (N := 103) rfl ?_); (try (refine gate_guard (by rfl) ?_; dsimp only)); refine lit_c ([1, 3] : List Int) (N := 103) ?hg ?hd ?hr ?_; (case hd => rfl); (case hg => rfl); (case hr => first | (go_simp; done) | (go_simp; rfl)); intro ASb cSb wSb hc hb; have HSb := Aside0.mk hc; have n_ := Aside0.mk (HK.out.below hb); clear HK; have HK := n_; clear n_; clear hc hb) | (go_at_call 20; (with_reducible refine (k_same _ A8 c8 ([1, 3] : List Int) ASb cSb 2 ?sg HSb.out ?sn ?sd).mono ?_); (case sg => exact HK.out.get 2 rfl); (case sn => rfl); (case sd => decide); rintro e w' ⟨rfl, nd, rfl⟩; have n_ := Aside0.mk (HK.out.drewN nd); clear HK; have HK := n_; clear n_; clear HSb) | ((with_reducible refine gate_dst (N := 116) rfl ?_); (try (refine gate_guard (by rfl) ?_; dsimp only)); refine lit_c ([4, 0] : List Int) (N := 116) ?hg ?hd ?hr ?_; (case hd => rfl); (case hg => rfl); (case hr => first | (go_simp; done) | (go_simp; rfl)); intro ASc cSc wSc hc hb; have HSc := Aside0.mk hc; have n_ := Aside0.mk (HK.out.below hb); clear HK; have HK := n_; clear n_; clear hc hb) | (go_at_call 20; (with_reducible refine (k_same _ A13 c13 ([4, 0] : List Int) ASc cSc 2 ?sg HSc.out ?sn ?sd).mono ?_); (case sg => exact HK.out.get 1 rfl); (case sn => rfl); (case sd => decide); rintro e w' ⟨rfl, nd, rfl⟩; have n_ := Aside0.mk (HK.out.drewN nd); clear HK; have HK := n_; clear n_; clear HSc) | ((with_reducible refine gate_dst (N := 121) rfl ?_); (try (refine gate_guard (by rfl) ?_; dsimp only)); refine lit_c ([1, 3] : List Int) (N := 121) ?hg ?hd ?hr ?_; (case hd => rfl); (case hg => rfl); (case hr => first | (go_simp; done) | (go_simp; rfl)); intro ASd cSd wSd hc hb; have HSd := Aside0.mk hc; have n_ := Aside0.mk (HK.out.below hb); clear HK; have HK := n_; clear n_; clear hc hb) | (go_at_call 20; (with_reducible refine (k_same _ A15 c15 ([1, 3] : List Int) ASd cSd 2 ?sg HSd.out ?sn ?sd).mono ?_); (case sg => exact HK.out.get 0 rfl); (case sn => rfl); (case sd => decide); rintro e w' ⟨rfl, nd, rfl⟩; have n_ := Aside0.mk (HK.out.drewN nd); clear HK; have HK := n_; clear n_; clear HSd))); go_ret; exact ⟨rfl, HK.out.b⟩
end Go.Proofs.Ytmkdllaagaimlaa.C
end
