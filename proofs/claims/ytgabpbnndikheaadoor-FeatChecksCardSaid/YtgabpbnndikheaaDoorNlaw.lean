import Derived.Test.YtgabpbnndikheaaDoorNrefs
import Derived.Test.YtgabpbnndikheaaDoorVr
import Derived.Deep.Slices
import Derived.DataReads
set_option linter.constructorNameAsVariable false
/-! sort.Search over a function with two captured variables. -/
namespace Go.Proofs.YtgabpbnndikheaaDoor
open Go.RowKit Go.Proofs.YtgabpbnndikheaaDoorW.PrintWords

set_option maxHeartbeats 2000000 in
set_option maxRecDepth 100000 in
theorem search_any (k : FuncId) (c1 c2 : Value) (n : Nat) (f : Nat → Bool) (w : World) (hn : n ≤ 1000000) (hk : ∀ args W, (callFunc k args).run Tryd.prog W = .ok (.enter k args) W)
    (hf : ∀ i, i < n → ∀ W, Below w.heap.size w W → Calls Tryd.prog k #[.int .i64 i, c1, c2] W fun e w' => e = .returned (.bool (f i)) ∧ Below W.heap.size W w') :
    Calls Tryd.prog 74 #[.int .i64 n, .func (.func k) #[] #[c1, c2]] w fun e w' => ∃ r : Nat, e = .returned (.int .i64 r) ∧ r ≤ n ∧ (0 < r → f (r - 1) = false) ∧ (r < n → f r = true) ∧ Below w.heap.size w w' := by
  have HF := Aside0.mk hf
  clear hf
  go_enter Tryd.func74, Tryd.ntmps74
  go_wp2
  go_loopw [5, 6] (fun u v wr => ∃ i j : Nat, u = .int .i64 i ∧ v = .int .i64 j ∧ i ≤ j ∧ j ≤ n ∧ Aside0 (0 < i → f (i - 1) = false) ∧ Aside0 (j < n → f j = true) ∧ Aside0 (Below w.heap.size w wr)) (fun u v _ => (intOf v - intOf u).toNat)
  case atStart => exact ⟨0, n, rfl, rfl, Nat.zero_le _, Nat.le_refl _, ⟨fun h => absurd h (by omega)⟩, ⟨fun h => absurd h (by omega)⟩, ⟨Below.refl _ _⟩⟩
  case round =>
    obtain ⟨i, j, rfl, rfl, hij, hjn, HI, HJ, HB⟩ := hrel
    by_cases hlt : i < j
    · have hd : decide ((i : Int) < (j : Int)) = true := by simp; omega
      obtain ⟨h, hh⟩ : ∃ h, h = (i + j) / 2 := ⟨_, rfl⟩
      have n1 : wrap64 ((i : Int) + (j : Int)) = (i : Int) + (j : Int) := wrap64_id (by omega) (by omega)
      have n2 : ((i : Int) + (j : Int)) / 2 = (h : Int) := by omega
      have n3 : wrap64 (h : Int) = (h : Int) := wrap64_id (by omega) (by omega)
      have hhi : i ≤ h := by omega
      have hhj : h < j := by omega
      have HC := Aside0.mk (HF.out h (by omega) wr HB.out)
      obtain ⟨b, hb⟩ : ∃ b, b = f h := ⟨_, rfl⟩
      rw [← hb] at HC
      have HBB := Aside0.mk hb
      clear hb hh
      cases b
      · go_wp2_with ((with_reducible refine HC.out.mono ?_); rintro e w1 ⟨rfl, hB⟩; have HB1 := Aside0.mk (below_call HB.out hB); clear hB)
        go_roundw
        case rel => exact ⟨h + 1, j, rfl, rfl, by omega, hjn, ⟨fun _ => by rw [Nat.add_sub_cancel]; exact HBB.out.symm⟩, HJ, HB1⟩
        case measure => simp only [intOf]; omega
      · go_wp2_with ((with_reducible refine HC.out.mono ?_); rintro e w1 ⟨rfl, hB⟩; have HB1 := Aside0.mk (below_call HB.out hB); clear hB)
        go_roundw
        case rel => exact ⟨i, h, rfl, rfl, by omega, by omega, HI, ⟨fun _ => HBB.out.symm⟩, HB1⟩
        case measure => simp only [intOf]; omega
    · have hd : decide ((i : Int) < (j : Int)) = false := by simp; omega
      have hij2 : i = j := by omega
      go_wp2
      go_ret
      exact ⟨i, rfl, by omega, HI.out, by rw [hij2]; exact HJ.out, HB.out⟩
end Go.Proofs.YtgabpbnndikheaaDoor

set_option linter.constructorNameAsVariable false
/-! feat.Find. -/
namespace Go.Proofs.YtgabpbnndikheaaDoor
open Go.RowKit Go.Proofs.YtgabpbnndikheaaDoorW.PrintWords

def geId (l : List Fea) (id : Int) (i : Nat) : Bool := decide (id ≤ (fea l i).id)
set_option maxHeartbeats 1000000 in
set_option maxRecDepth 100000 in
theorem geId_any (l : List Fea) (id : Int) (i : Nat) (A : Option Addr) (c g g' : Nat) (w : World) (h : RdS w A l) (hi : i < l.length) (hl : l.length ≤ 1000000) (h1 : w.cell? ⟨g, 0, none⟩ = some (.slice A l.length c)) (h2 : w.cell? ⟨g', 0, none⟩ = some (.int .i64 id)) :
    Calls Tryd.prog 75 #[.int .i64 i, .pointer (some ⟨g, 0, none⟩), .pointer (some ⟨g', 0, none⟩)] w fun e w' => e = .returned (.bool (geId l id i)) ∧ Below w.heap.size w w' := by
  have HR := Aside0.mk h
  obtain ⟨ad, A1, c1, A2, c2, rfl, k0, -⟩ := h.fea hi
  clear h
  unfold geId
  have n1 : (i : Int) < (l.length : Int) := by omega
  have K0 := Aside0.mk k0
  have H1 := Aside0.mk h1
  have H2 := Aside0.mk h2
  generalize hq : (fea l i).id = q at *
  clear k0 h1 h2 hq
  obtain ⟨b, hb⟩ : ∃ b, b = decide (id ≤ q) := ⟨_, rfl⟩
  have hb' := hb.symm
  rw [← hb]
  clear hb
  go_enter Tryd.func75, Tryd.ntmps75
  go_wp2_with fail
  refine wp_region_loc (by kernel_rfl) (by kernel_rfl) (by kernel_rfl) (fun xs => by simp only [fill, Act.put, List.setIfInBounds_toArray, List.set_cons_zero, List.set_cons_succ, Nat.reduceAdd]; rfl) ?_
  iterate 8 (apply wpLoc_det; · (intro vs W hb he; have q1 := pw_cell_below hb K0.out; have q2 := pw_cell_below hb H1.out; have q3 := pw_cell_below hb H2.out; simp [edgeSat, Region.binds, Fact.at_] at he; unfold locRun; go_simp; first | exact loc_val))
  refine wpLoc_nil fun vs W hb he => ?_
  simp only [List.nil_append, List.cons_append, factsAll, Fact.at_, Nat.reduceAdd] at he
  obtain ⟨-, -, -, -, -, -, -, e7, -⟩ := he
  rw [e7]
  have HB := Aside0.mk hb
  clear hb e7
  go_wp2
  go_ret
  exact ⟨rfl, HB.out⟩
theorem box2c {P : Program} {g : FuncId} {args : Array Value} {K : Ending → World → Prop} {w : World} {v u : Value} {t t' : TypeId}
    (h : ∀ w0, Aside0 (Below w.heap.size w w0) → w0.cell? ⟨w.heap.size, 0, none⟩ = some v → w0.cell? ⟨w.heap.size + 1, 0, none⟩ = some u → Calls P g args w0 K) :
    Calls P g args ((w.alloc (.cells #[v] t)).alloc (.cells #[u] t')) K := by
  have h1 := heap_alloc_new w (.cells #[v] t)
  have h2 := heap_alloc_new (w.alloc (.cells #[v] t)) (.cells #[u] t')
  rw [World.size_alloc] at h2
  have b := below_alloc' (Below.refl _ (w.alloc (.cells #[v] t))) (.cells #[u] t')
  have h1' := (b.block w.heap.size (by rw [World.size_alloc]; exact Nat.lt_succ_self _)).trans h1
  exact h _ ⟨below_alloc' (below_alloc' (Below.refl _ _) _) _⟩ (by unfold World.cell?; rw [h1']; rfl) (by unfold World.cell?; rw [h2]; rfl)
set_option maxHeartbeats 2000000 in
set_option maxRecDepth 100000 in
theorem find_any (l : List Fea) (id : Int) (A : Option Addr) (c : Nat) (w : World) (h : RdS w A l) (hl : l.length ≤ 1000000) :
    Calls Tryd.prog 43 #[.slice A l.length c, .int .i64 id] w fun e w' => ∃ r : Nat, r ≤ l.length ∧ (0 < r → geId l id (r - 1) = false) ∧ (r < l.length → geId l id r = true) ∧ e = .returned (.int .i64 (if r < l.length ∧ (fea l r).id = id then (r : Int) else -1)) ∧ Below w.heap.size w w' := by
  have HR := Aside0.mk h
  clear h
  go_enter Tryd.func43, Tryd.ntmps43
  go_wp2_with (go_at_call 74; refine box2c fun w0 HB0 k1 k2 => ?_; refine (search_any 75 _ _ l.length (geId l id) w0 hl (fun _ _ => by go_simp) (fun i hi W hW => geId_any l id i A c _ _ W (HR.out.keep (below_call HB0.out hW)) hi hl (pw_cell_below hW k1) (pw_cell_below hW k2))).mono ?_; rintro e w1 ⟨r, rfl, hr, hr1, hr2, hB⟩; have HB1 := Aside0.mk (below_call HB0.out hB); have HR1 := Aside0.mk hr1; have HR2 := Aside0.mk hr2; have K1 := Aside0.mk (pw_cell_below hB k1); have K2 := Aside0.mk (pw_cell_below hB k2); clear hB HB0 k1 k2 hr1 hr2)
  by_cases hlt : r < l.length
  · have d1 : decide ((r : Int) < (l.length : Int)) = true := by simp; omega
    have n1 : (r : Int) < (l.length : Int) := by omega
    obtain ⟨ad, A1, c1, A2, c2, rfl, k0, -⟩ := (HR.out.keep HB1.out).fea hlt
    have K0 := Aside0.mk k0
    generalize hq : (fea l r).id = q at *
    have HQ := Aside0.mk hq
    clear k0 hq
    obtain ⟨b, hb⟩ : ∃ b, b = (q == id) := ⟨_, rfl⟩
    have hb' := hb.symm
    have HBQ := Aside0.mk hb
    clear hb
    refine wp_region_loc (by kernel_rfl) (by kernel_rfl) (by kernel_rfl) (fun xs => by simp only [fill, Act.put, List.setIfInBounds_toArray, List.set_cons_zero, List.set_cons_succ, Nat.reduceAdd]; rfl) ?_
    iterate 13 (apply wpLoc_det; · (intro vs W hb he; have q1 := pw_cell_below hb K0.out; have q2 := pw_cell_below hb K1.out; have q3 := pw_cell_below hb K2.out; simp [edgeSat, Region.binds, Fact.at_] at he; unfold locRun; go_simp; first | exact loc_val))
    refine wpLoc_nil fun vs W hb he => ?_
    simp only [List.nil_append, List.cons_append, factsAll, Fact.at_, Nat.reduceAdd] at he
    obtain ⟨-, -, -, -, -, -, -, -, -, -, -, -, e12, -⟩ := he
    rw [e12]
    have HB2 := Aside0.mk (below_call HB1.out hb)
    clear hb e12 n1 d1 hb'
    cases b
    · go_wp2
      go_ret
      have hno : ¬ (r < l.length ∧ (fea l r).id = id) := fun h => by
        have h2 := h.2
        rw [HQ.out] at h2
        have h3 := HBQ.out
        rw [h2] at h3
        simp at h3
      exact ⟨r, hr, HR1.out, HR2.out, by rw [if_neg hno]; rfl, HB2.out⟩
    · go_wp2
      go_ret
      have h2 : q = id := by
        have h3 := HBQ.out.symm
        simpa using h3
      have hyes : r < l.length ∧ (fea l r).id = id := ⟨hlt, by rw [HQ.out, h2]⟩
      exact ⟨r, hr, HR1.out, HR2.out, by rw [if_pos hyes]; rfl, HB2.out⟩
  · have d1 : decide ((r : Int) < (l.length : Int)) = false := by simp; omega
    refine wp_region_loc (by kernel_rfl) (by kernel_rfl) (by kernel_rfl) (fun xs => by simp only [fill, Act.put, List.setIfInBounds_toArray, List.set_cons_zero, List.set_cons_succ, Nat.reduceAdd]; rfl) ?_
    iterate 13 (first | (apply wpLoc_det; · (intro vs W hb he; have q2 := pw_cell_below hb K1.out; have q3 := pw_cell_below hb K2.out; simp [edgeSat, Region.binds, Fact.at_] at he; unfold locRun; go_simp; first | exact loc_val)) | (apply wpLoc_det undef; · (intro vs2 W hb he; simp [edgeSat, Region.binds, Fact.at_] at he; go_simp; done)))
    refine wpLoc_nil fun vs W hb he => ?_
    simp only [List.nil_append, List.cons_append, factsAll, Fact.at_, Nat.reduceAdd] at he
    obtain ⟨-, -, -, -, -, -, -, -, -, -, -, -, e12, -⟩ := he
    rw [e12]
    have HB2 := Aside0.mk (below_call HB1.out hb)
    clear hb e12
    go_wp2
    go_ret
    exact ⟨r, hr, HR1.out, HR2.out, by rw [if_neg (fun h => hlt h.1)]; rfl, HB2.out⟩
end Go.Proofs.YtgabpbnndikheaaDoor

set_option linter.constructorNameAsVariable false
/-! What holds of every implementation. -/
namespace Go.Proofs.YtgabpbnndikheaaDoor
open Go.RowKit Go.Proofs.YtgabpbnndikheaaDoorW.PrintWords

def dotF : Fea := ⟨1, 1, [[⟨3, 4⟩]], [], 0, 9⟩
set_option maxRecDepth 100000 in
theorem dot_law : featErr dotF = 0 := by decide
theorem rd_one {α : Type} {R : α → List Value → Prop} {size : Nat} {w : World} {b : Nat} {x : α} {cs : List Value} {t : TypeId} (h : w.heap[b]? = some (.cells cs.toArray t (0, 0))) (hs : cs.length = size) (hR : R x cs) : ReadsRow R size w (some ⟨b, 0, none⟩) 1 [x] := by
  refine ⟨rfl, by omega, fun _ => ⟨_, rfl, fun j p hj => ?_⟩⟩
  cases j with
  | succ j => simp at hj
  | zero =>
    simp at hj
    subst hj
    refine ⟨cs, hs, hR, fun i u hu => ?_⟩
    have hadd : (⟨b, 0, none⟩ : Addr).add (0 * size + i) = ⟨b, i, none⟩ := by
      unfold Addr.add
      split <;> simp_all
    rw [hadd]
    unfold World.cell?
    rw [h]
    simpa using hu
set_option maxHeartbeats 1000000 in
set_option maxRecDepth 100000 in
theorem dot_surv (w : World) :
    Calls Tryd.prog 42 #[] w fun e w' => ∃ A c, e = .returned (.slice A 1 c) ∧ RdS w' A [dotF] ∧ Below w.heap.size w w' := by
  go_enter Tryd.func42, Tryd.ntmps42
  go_wp2
  go_ret
  obtain ⟨W1, e1⟩ : ∃ W1, W1 = w.alloc (.cells #[.int .i64 3, .int .i64 4] 73) := ⟨_, rfl⟩
  rw [← e1]
  obtain ⟨W2, e2⟩ : ∃ W2, W2 = W1.alloc (.cells #[.slice (some ⟨w.heap.size, 0, none⟩) 1 1] 68) := ⟨_, rfl⟩
  rw [← e2]
  have h1 : W1.heap[w.heap.size]? = some (.cells #[.int .i64 3, .int .i64 4] 73 (0, 0)) := by rw [e1]; exact heap_alloc_new w _
  have s1 : W1.heap.size = w.heap.size + 1 := by rw [e1, World.size_alloc]
  have h2 : W2.heap[w.heap.size + 1]? = some (.cells #[.slice (some ⟨w.heap.size, 0, none⟩) 1 1] 68 (0, 0)) := by rw [← s1, e2]; exact heap_alloc_new W1 _
  have s2 : W2.heap.size = w.heap.size + 1 + 1 := by rw [e2, World.size_alloc, s1]
  obtain ⟨W3, e3⟩ : ∃ W3, W3 = W2.alloc (.cells #[.int .i64 1, .int .i64 1, .slice (some ⟨w.heap.size + 1, 0, none⟩) 1 1, .slice none 0 0, .int .i64 0, .int .i64 9] 39) := ⟨_, rfl⟩
  rw [← e3]
  have h3 : W3.heap[w.heap.size + 1 + 1]? = some (.cells #[.int .i64 1, .int .i64 1, .slice (some ⟨w.heap.size + 1, 0, none⟩) 1 1, .slice none 0 0, .int .i64 0, .int .i64 9] 39 (0, 0)) := by rw [← s2, e3]; exact heap_alloc_new W2 _
  have b1 : Below w.heap.size w W1 := by rw [e1]; exact below_alloc' (Below.refl _ _) _
  have b2 : Below W1.heap.size W1 W2 := by rw [e2]; exact below_alloc' (Below.refl _ _) _
  have b3 : Below W2.heap.size W2 W3 := by rw [e3]; exact below_alloc' (Below.refl _ _) _
  have g2 : W3.heap[w.heap.size + 1]? = some (.cells #[.slice (some ⟨w.heap.size, 0, none⟩) 1 1] 68 (0, 0)) := (b3.block _ (by omega)).trans h2
  have g1 : W3.heap[w.heap.size]? = some (.cells #[.int .i64 3, .int .i64 4] 73 (0, 0)) := (b3.block _ (by omega)).trans ((b2.block _ (by omega)).trans h1)
  refine ⟨_, _, rfl, ?_, below_call (below_call b1 b2) b3⟩
  have r1 : RdP W3 (some ⟨w.heap.size, 0, none⟩) [⟨3, 4⟩] := rd_one (cs := [.int .i64 3, .int .i64 4]) g1 rfl rfl
  have r2 : RdA W3 (some ⟨w.heap.size + 1, 0, none⟩) [[⟨3, 4⟩]] := rd_one (cs := [.slice (some ⟨w.heap.size, 0, none⟩) 1 1]) g2 rfl ⟨_, 1, rfl, Nat.le_refl _, r1⟩
  exact rd_one (cs := [.int .i64 1, .int .i64 1, .slice (some ⟨w.heap.size + 1, 0, none⟩) 1 1, .slice none 0 0, .int .i64 0, .int .i64 9]) h3 rfl ⟨_, 1, none, 0, rfl, Nat.le_refl _, Nat.le_refl _, r2, rfl, by decide, fun h => absurd h (by decide)⟩
def zeroF : Fea := ⟨0, 0, [], [], 0, 0⟩
theorem name_a1 : nameOk ⟨#[97, 95, 49]⟩ = true := by decide
theorem add_none (ad : Addr) : ad.add 0 = ad := by
  unfold Addr.add
  simp
theorem find_dot (A : Option Addr) (c : Nat) (W : World) (h : RdS W A [dotF]) :
    Calls Tryd.prog 43 #[.slice A 1 c, .int .i64 2] W fun e w' => e = .returned (.int .i64 (-1)) ∧ Below W.heap.size W w' := by
  refine (find_any [dotF] 2 A c W h (by decide)).mono ?_
  rintro e w' ⟨r, hr, -, h2, rfl, hB⟩
  have hr1 : r = 1 := by
    have : r ≤ 1 := hr
    by_cases h0 : r = 0
    · subst h0
      have := h2 (by decide)
      exact absurd this (by decide)
    · omega
  subst hr1
  exact ⟨rfl, hB⟩
set_option maxHeartbeats 1000000 in
set_option maxRecDepth 100000 in
theorem featBegun_any (w : World) :
    Calls Tryd.prog 13 #[] w fun e w' => e = .returned (.bool true) ∧ Below w.heap.size w w' := by
  have D := Aside0.mk dot_surv
  have Z := Aside0.mk (fun W => fcheck_any zeroF none none 0 0 W ⟨rfl, by decide, fun h => absurd h (by decide)⟩ (Nat.le_refl _) ⟨rfl, by decide, fun h => absurd h (by decide)⟩)
  have zl : featErr zeroF = 1 := by unfold featErr; rw [if_pos (.inl (by decide))]
  rw [zl] at Z
  clear zl
  simp only [zeroF, List.length_nil] at Z
  have NM := Aside0.mk (fun W => name_any ⟨#[97, 95, 49]⟩ W (by decide))
  rw [name_a1] at NM
  go_enter Tryd.func13, Tryd.ntmps13
  have FD := Aside0.mk (fun A c W (h : RdS W A [dotF]) => find_dot A c W h)
  go_wp2_with (first
    | (go_at_call 42; (with_reducible refine (D.out w).mono ?_); rintro e w1 ⟨A, c, rfl, hS, hB⟩; have HB1 := Aside0.mk hB; obtain ⟨ad, A1, c1, A2, c2, rfl, k0, k1, k2, k3, k4, k5, hpc, hac, hrp, hrt⟩ := hS.fea (i := 0) (by decide); have F1 := Aside0.mk (fcheck_any dotF A1 A2 c1 c2 w1 hrp hpc hrt); rw [dot_law] at F1; simp only [fea, dotF, Nat.zero_mul, List.getD_cons_zero, List.length_cons, List.length_nil, Nat.zero_add, Nat.reduceAdd, add_none] at k0 k1 k2 k3 k4 k5 F1; clear hS hB hpc hac hrp hrt)
    | (go_at_call 18; (with_reducible refine F1.out.mono ?_); rintro e w2 ⟨rfl, hB⟩; have HB2 := Aside0.mk (below_call HB1.out hB); clear hB)
    | (go_at_call 18; (with_reducible refine (Z.out _).mono ?_); rintro e w3 ⟨rfl, hB⟩; have HB3 := Aside0.mk (below_call HB2.out hB); clear hB)
    | (go_at_call 42; (with_reducible refine (D.out w3).mono ?_); rintro e w4 ⟨A4, c4, rfl, hS, hB⟩; have HB4 := Aside0.mk (below_call HB3.out hB); have HS4 := Aside0.mk hS; clear hB hS)
    | (go_at_call 43; (with_reducible refine (FD.out _ _ _ HS4.out).mono ?_); rintro e w5 ⟨rfl, hB⟩; have HB5 := Aside0.mk (below_call HB4.out hB); clear hB)
    | (go_at_call 14; (with_reducible refine (NM.out _).mono ?_); rintro e w6 ⟨rfl, rfl⟩))
  go_ret
  exact ⟨rfl, HB5.out⟩
end Go.Proofs.YtgabpbnndikheaaDoor

set_option linter.constructorNameAsVariable false
/-! The law. -/
namespace Go.Proofs.YtgabpbnndikheaaDoor
open Go.RowKit Go.Proofs.YtgabpbnndikheaaDoorW.PrintWords

theorem boxF_r {P : Program} {cc : Code} {Q : Exit → Act → World → Prop} {a : Act} {w : World} {id kind fro til : Int} {p q : Value}
    (h : ∀ w0, Aside0 (Below w.heap.size w w0) → Aside0 (BoxF w0 w.heap.size id kind p q fro til) → cc.wp P Q a w0) : cc.wp P Q a (w.alloc (.cells #[.int .i64 id, .int .i64 kind, p, q, .int .i64 fro, .int .i64 til] 39)) :=
  h _ ⟨below_alloc' (Below.refl _ _) _⟩ ⟨heap_alloc_new w _⟩
set_option maxHeartbeats 8000000 in
set_option maxRecDepth 100000 in
theorem FeatChecks_any (l : List Fea) (kind : Int) (key : ByteArray) (A : Option Addr) (c : Nat) (w : World) (h : RdS w A l) (hm : key.size ≤ 9223372036854775807) :
    Calls Tryd.prog 5 #[.slice A l.length c, .int .i64 kind, .string key] w fun e w' => e = .returned (.bool true) ∧ Below w.heap.size w w' := by
  have HR := Aside0.mk h
  have hbig := h.2.1
  clear h
  have N1 := Aside0.mk (fun W => name_any key W hm)
  have N2 := Aside0.mk (fun W => rname_any key W hm)
  have S1 := Aside0.mk (fun W (hb : Below w.heap.size w W) => all_any l A c W (HR.out.keep hb))
  have S2 := Aside0.mk (fun W (hb : Below w.heap.size w W) => rall_any l A c W (HR.out.keep hb))
  have BG := Aside0.mk featBegun_any
  generalize nameOk key = nk at *
  generalize surveyErr l = se at *
  go_enter Tryd.func5, Tryd.ntmps5
  go_wp2_with (first
    | (go_at_call 13; (with_reducible refine (BG.out _).mono ?_); rintro e w1 ⟨rfl, hB⟩; have HB1 := Aside0.mk hB; clear hB)
    | (go_at_call 14; (with_reducible refine (N1.out _).mono ?_); rintro e w2 ⟨rfl, rfl⟩)
    | (go_at_call 15; (with_reducible refine (N2.out _).mono ?_); rintro e w3 ⟨rfl, hB⟩; have HB3 := Aside0.mk (below_call HB1.out hB); clear hB)
    | (go_at_call 16; (with_reducible refine (S1.out _ HB3.out).mono ?_); rintro e w4 ⟨rfl, hB⟩; have HB4 := Aside0.mk (below_call HB3.out hB); clear hB)
    | (go_at_call 17; (with_reducible refine (S2.out _ HB4.out).mono ?_); rintro e w5 ⟨rfl, hB⟩; have HB5 := Aside0.mk (below_call HB4.out hB); clear hB))
  go_loopw [27] (fun u wr => ∃ i : Nat, u = .int .i64 i ∧ i ≤ l.length ∧ Aside0 (Below w.heap.size w wr)) (fun u _ => l.length - (intOf u).toNat)
  case atStart => exact ⟨0, rfl, Nat.zero_le _, HB5⟩
  case round =>
    obtain ⟨i, rfl, hi0, HB6⟩ := hrel
    by_cases hi : i < l.length
    · have hd : decide ((i : Int) < (l.length : Int)) = true := by simp; omega
      have hd' : ¬ l.length ≤ i := by omega
      obtain ⟨ad, A1, c1, A2, c2, rfl, k0, k1, k2, k3, k4, k5, hpc, hac, hrp, hrt⟩ := (HR.out.keep HB6.out).fea hi
      have C1 := Aside0.mk (fun W (hb : Below wr.heap.size wr W) => fcheck_any (fea l i) A1 A2 c1 c2 W (hrp.keep hb) hpc (hrt.keep hb))
      have C2 := Aside0.mk (fun W (hb : Below wr.heap.size wr W) => rfeat_any (fea l i) A1 A2 c1 c2 W (hrp.keep hb) hpc (hrt.keep hb))
      have P1 := Aside0.mk (fun W (hb : Below wr.heap.size wr W) => parts_any kind (fea l i).parts A1 c1 W (hrp.keep hb) hpc)
      have P2 := Aside0.mk (fun W (hb : Below wr.heap.size wr W) => rparts_any kind (fea l i).parts A1 c1 W (hrp.keep hb) hpc)
      have T1 := Aside0.mk (fun W (hb : Below wr.heap.size wr W) => attrs_any (fea l i).attrs true A2 c2 W (hrt.keep hb))
      have T2 := Aside0.mk (fun W (hb : Below wr.heap.size wr W) => rattrs_any (fea l i).attrs true A2 c2 W (hrt.keep hb))
      have T3 := Aside0.mk (fun W (hb : Below wr.heap.size wr W) => attrs_any (fea l i).attrs false A2 c2 W (hrt.keep hb))
      have T4 := Aside0.mk (fun W (hb : Below wr.heap.size wr W) => rattrs_any (fea l i).attrs false A2 c2 W (hrt.keep hb))
      clear hrp hrt hpc hac
      generalize fea l i = f at *
      generalize featErr f = m1 at *
      obtain ⟨id, fkind, parts, attrs, fro, til⟩ := f
      simp only at k0 k1 k2 k3 k4 k5 C1 C2 P1 P2 T1 T2 T3 T4
      generalize partsErr kind parts = m2 at *
      generalize attrsErr attrs true = m3 at *
      generalize attrsErr attrs false = m4 at *
      generalize parts.length = np at *
      generalize attrs.length = na at *
      go_wp2_with fail
      refine boxF_r fun w7 HB7 HX => ?_
      refine wp_region_loc (by kernel_rfl) (by kernel_rfl) (by kernel_rfl) (fun xs => by simp only [fill, Act.put, List.setIfInBounds_toArray, List.set_cons_zero, List.set_cons_succ, Nat.reduceAdd]; rfl) ?_
      iterate 34 (apply wpLoc_det; · (intro vs W hb he; obtain ⟨q0, q1, q2, q3, q4, q5⟩ := (HX.out.keep hb).cs; have hbw := below_call HB7.out hb; simp [edgeSat, Region.binds, Fact.at_] at he; unfold locRun; go_simp; first | exact loc_val | (with_reducible exact loc_call (C1.out W hbw)) | (with_reducible exact loc_call (C2.out W hbw)) | (with_reducible exact loc_call (P1.out W hbw)) | (with_reducible exact loc_call (P2.out W hbw)) | (with_reducible exact loc_call (T1.out W hbw)) | (with_reducible exact loc_call (T2.out W hbw)) | (with_reducible exact loc_call (T3.out W hbw)) | (with_reducible exact loc_call (T4.out W hbw))))
      refine wpLoc_nil fun vs W hb he => ?_
      simp only [List.nil_append, List.cons_append, factsAll, Fact.at_, Nat.reduceAdd] at he
      obtain ⟨-, -, -, -, -, -, -, -, -, -, -, -, -, -, -, -, -, -, -, -, -, -, -, -, -, -, -, -, -, -, -, -, -, e33, -⟩ := he
      rw [e33]
      have HB8 := Aside0.mk (below_call (below_call HB6.out HB7.out) hb)
      clear e33 hb HX HB7 C1 C2 P1 P2 T1 T2 T3 T4
      go_wp2
      go_roundw
      case rel => exact ⟨i + 1, rfl, by omega, HB8⟩
      case measure => simp only [intOf]; omega
    · have hd : decide ((i : Int) < (l.length : Int)) = false := by simp; omega
      go_wp2
      go_ret
      exact ⟨rfl, HB6.out⟩
end Go.Proofs.YtgabpbnndikheaaDoor

set_option linter.constructorNameAsVariable false
/-! Surveys as they come in. -/
namespace Go.Proofs.YtgabpbnndikheaaDoor
open Go.ChangeShapes Go.WideShapes Go.ChangeAt Go.RowKit Go.Joins Go.Proofs.YtgabpbnndikheaaDoorW.PrintWords

section
variable {H : Type} {enc : TypeId × Value → H} {W : World} {base : Nat} {spare : Nat → Bool} {held : Bool}

/-- A slice opened: each element is told by R. -/
theorem reads_of_trod {α : Type} [Inhabited α] {R : α → List Value → Prop} {t e : TypeId} {size fuel : Nat} {cs : List Value} {x : DataW H × List MemPlace} (ht : Tryd.prog.underlying t = some (.slice e)) (hc : Tryd.prog.cellsOf e = size)
    (hR : ∀ n cs y, DataW.trod enc Tryd.prog W base spare held n e cs = some y → ∃ a, R a cs) (h : DataW.trod enc Tryd.prog W base spare held fuel t cs = some x) :
    ∃ (l : List α) (A : Option Addr) (c : Nat), cs = [.slice A l.length c] ∧ l.length ≤ c ∧ ReadsRow R size W A l.length l := by
  rcases Go.Deep.open_slice ht h with ⟨rfl, _⟩ | ⟨a, len, cap, m, n, D, Pl, rfl, _, hl, hm, hmm, _, hx⟩
  · exact ⟨[], none, 0, rfl, Nat.le_refl _, rfl, by simp, fun h => absurd h (by simp)⟩
  · have hlm : len ≤ m := by
      rw [hmm]
      split <;> omega
    rw [hc] at hx
    have key : ∀ i, ∃ a' : α, i < len → ∃ cs', cs'.length = size ∧ R a' cs' ∧ ∀ j u, cs'[j]? = some u → W.cell? (a.add (i * size + j)) = some u := by
      intro i
      by_cases hi : i < len
      · obtain ⟨cs', h1, h2⟩ := hx i (by omega)
        obtain ⟨a', ha⟩ := hR _ _ _ h2
        obtain ⟨-, h3, h4⟩ := World.cells?_some h1
        refine ⟨a', fun _ => ⟨cs', h3, ha, fun j u hu => ?_⟩⟩
        have hj : j < size := by rw [← h3]; exact (List.getElem?_eq_some_iff.1 hu).1
        have h5 := h4 j hj
        rw [Go.Deep.add_add, hu] at h5
        exact h5
      · exact ⟨default, fun h => absurd h hi⟩
    obtain ⟨f, hf⟩ := Classical.skolem.1 key
    refine ⟨(List.range len).map f, some a, cap, by simp, by simpa using hl, rfl, ?_, fun _ => ⟨a, rfl, fun j p hj => ?_⟩⟩
    · simp only [List.length_map, List.length_range]
      have : maxLen ≤ 9223372036854775807 := by decide
      omega
    · rw [List.getElem?_map] at hj
      by_cases hjl : j < len
      · rw [List.getElem?_range hjl] at hj
        simp at hj
        subst hj
        obtain ⟨cs', h1, h2, h3⟩ := hf j hjl
        exact ⟨cs', h1, h2, h3⟩
      · rw [List.getElem?_eq_none (by simp; omega)] at hj
        simp at hj
theorem list2 {α : Type} {l : List α} (h : l.length = 2) : ∃ a b, l = [a, b] := by
  match l, h with
  | [a, b], _ => exact ⟨a, b, rfl⟩
theorem list6 {α : Type} {l : List α} (h : l.length = 6) : ∃ a b c d e f, l = [a, b, c, d, e, f] := by
  match l, h with
  | [a, b, c, d, e, f], _ => exact ⟨a, b, c, d, e, f, rfl⟩
theorem list5 {α : Type} {l : List α} (h : l.length = 5) : ∃ a b c d e, l = [a, b, c, d, e] := by
  match l, h with
  | [a, b, c, d, e], _ => exact ⟨a, b, c, d, e, rfl⟩
theorem list4 {α : Type} {l : List α} (h : l.length = 4) : ∃ a b c d, l = [a, b, c, d] := by
  match l, h with
  | [a, b, c, d], _ => exact ⟨a, b, c, d, rfl⟩
theorem cells3 : Tryd.prog.cellsOf 3 = 1 := by kernel_rfl
set_option maxRecDepth 100000 in
theorem pt_open {n : Nat} {cs : List Value} {y : DataW H × List MemPlace} (h : DataW.trod enc Tryd.prog W base spare held n 73 cs = some y) : ∃ p : Pt, PtC p cs := by
  obtain ⟨xs, m, rfl, rfl, hlen, hxl, hf⟩ := DataW.trod_struct Tryd.underlying73 h
  rw [show Tryd.prog.cellsOf 73 = 2 by kernel_rfl] at hlen
  obtain ⟨c0, c1, rfl⟩ := list2 hlen
  obtain ⟨x0, x1, rfl⟩ := list2 hxl
  have h0 : DataW.trod enc Tryd.prog W base spare held m 3 (List.take (Tryd.prog.cellsOf 3) [c0, c1]) = some x0 := hf 0 _ rfl
  have h1 : DataW.trod enc Tryd.prog W base spare held m 3 (List.take (Tryd.prog.cellsOf 3) [c1]) = some x1 := hf 1 _ rfl
  rw [cells3] at h0 h1
  obtain ⟨a, e0, -, -⟩ := DataW.trod_int (k := .i64) (by kernel_rfl) h0
  obtain ⟨b, e1, -, -⟩ := DataW.trod_int (k := .i64) (by kernel_rfl) h1
  simp only [List.take_succ_cons, List.take_zero, List.cons.injEq, and_true] at e0 e1
  subst e0 e1
  exact ⟨⟨a, b⟩, rfl⟩
instance : Inhabited Pt := ⟨⟨0, 0⟩⟩
theorem ring_open {n : Nat} {cs : List Value} {y : DataW H × List MemPlace} (h : DataW.trod enc Tryd.prog W base spare held n 68 cs = some y) : ∃ r : List Pt, RgC W r cs := by
  obtain ⟨l, A, c, rfl, hl, hr⟩ := reads_of_trod (R := PtC) (size := 2) Tryd.underlying68 (by kernel_rfl) (fun _ _ _ h => pt_open h) h
  exact ⟨l, A, c, rfl, hl, hr⟩
theorem parts_open {n : Nat} {cs : List Value} {y : DataW H × List MemPlace} (h : DataW.trod enc Tryd.prog W base spare held n 36 cs = some y) : ∃ (a : List (List Pt)) (A : Option Addr) (c : Nat), cs = [.slice A a.length c] ∧ a.length ≤ c ∧ RdA W A a :=
  reads_of_trod (R := RgC W) (size := 1) Tryd.underlying36 (by kernel_rfl) (fun _ _ _ h => ring_open h) h
theorem cells9 : Tryd.prog.cellsOf 9 = 1 := by kernel_rfl
theorem cells4b : Tryd.prog.cellsOf 4 = 1 := by kernel_rfl
theorem cells23 : Tryd.prog.cellsOf 23 = 4 := by kernel_rfl
theorem cells36 : Tryd.prog.cellsOf 36 = 1 := by kernel_rfl
theorem cells37 : Tryd.prog.cellsOf 37 = 1 := by kernel_rfl
theorem max_le {n : Nat} (h : n ≤ maxLen) : n ≤ 9223372036854775807 := Nat.le_trans h (by decide)
set_option maxRecDepth 100000 in
theorem valc_open {n : Nat} {cs : List Value} {y : DataW H × List MemPlace} (h : DataW.trod enc Tryd.prog W base spare held n 23 cs = some y) : ∃ v : Val, cs = [.int .i64 v.kind, .int .i64 v.n, .string v.s, .bool v.b] ∧ v.s.size ≤ 9223372036854775807 := by
  obtain ⟨xs, m, rfl, rfl, hlen, hxl, hf⟩ := DataW.trod_struct Tryd.underlying23 h
  rw [cells23] at hlen
  obtain ⟨c0, c1, c2, c3, rfl⟩ := list4 hlen
  obtain ⟨x0, x1, x2, x3, rfl⟩ := list4 hxl
  have h0 : DataW.trod enc Tryd.prog W base spare held m 3 (List.take (Tryd.prog.cellsOf 3) [c0, c1, c2, c3]) = some x0 := hf 0 _ rfl
  have h1 : DataW.trod enc Tryd.prog W base spare held m 3 (List.take (Tryd.prog.cellsOf 3) [c1, c2, c3]) = some x1 := hf 1 _ rfl
  have h2 : DataW.trod enc Tryd.prog W base spare held m 9 (List.take (Tryd.prog.cellsOf 9) [c2, c3]) = some x2 := hf 2 _ rfl
  have h3 : DataW.trod enc Tryd.prog W base spare held m 4 (List.take (Tryd.prog.cellsOf 4) [c3]) = some x3 := hf 3 _ rfl
  rw [cells3] at h0 h1
  rw [cells9] at h2
  rw [cells4b] at h3
  obtain ⟨a, e0, -, -⟩ := DataW.trod_int (k := .i64) (by kernel_rfl) h0
  obtain ⟨b, e1, -, -⟩ := DataW.trod_int (k := .i64) (by kernel_rfl) h1
  obtain ⟨s, e2, -, hs⟩ := DataW.trod_string (by kernel_rfl) h2
  obtain ⟨q, e3, -⟩ := DataW.trod_bool (by kernel_rfl) h3
  simp only [List.take_succ_cons, List.take_zero, List.cons.injEq, and_true] at e0 e1 e2 e3
  subst e0 e1 e2 e3
  exact ⟨⟨a, b, s, q⟩, rfl, max_le hs⟩
instance : Inhabited Att := ⟨⟨ByteArray.empty, ⟨0, 0, ByteArray.empty, false⟩⟩⟩
set_option maxRecDepth 100000 in
theorem att_open {n : Nat} {cs : List Value} {y : DataW H × List MemPlace} (h : DataW.trod enc Tryd.prog W base spare held n 75 cs = some y) : ∃ a : Att, AttC a cs := by
  obtain ⟨xs, m, rfl, rfl, hlen, hxl, hf⟩ := DataW.trod_struct Tryd.underlying75 h
  rw [show Tryd.prog.cellsOf 75 = 5 by kernel_rfl] at hlen
  obtain ⟨c0, c1, c2, c3, c4, rfl⟩ := list5 hlen
  obtain ⟨x0, x1, rfl⟩ := list2 hxl
  have h0 : DataW.trod enc Tryd.prog W base spare held m 9 (List.take (Tryd.prog.cellsOf 9) [c0, c1, c2, c3, c4]) = some x0 := hf 0 _ rfl
  have h1 : DataW.trod enc Tryd.prog W base spare held m 23 (List.take (Tryd.prog.cellsOf 23) [c1, c2, c3, c4]) = some x1 := hf 1 _ rfl
  rw [cells9] at h0
  rw [cells23] at h1
  obtain ⟨s, e0, -, hs⟩ := DataW.trod_string (by kernel_rfl) h0
  obtain ⟨v, e1, hv⟩ := valc_open h1
  simp only [List.take_succ_cons, List.take_zero, List.cons.injEq, and_true] at e0 e1
  obtain ⟨r1, r2, r3, r4⟩ := e1
  subst e0 r1 r2 r3 r4
  exact ⟨⟨s, v⟩, rfl, max_le hs, hv⟩
theorem attrs_open {n : Nat} {cs : List Value} {y : DataW H × List MemPlace} (h : DataW.trod enc Tryd.prog W base spare held n 37 cs = some y) : ∃ (a : List Att) (A : Option Addr) (c : Nat), cs = [.slice A a.length c] ∧ a.length ≤ c ∧ RdT W A a :=
  reads_of_trod (R := AttC) (size := 5) Tryd.underlying37 (by kernel_rfl) (fun _ _ _ h => att_open h) h
instance : Inhabited Fea := ⟨⟨0, 0, [], [], 0, 0⟩⟩
set_option maxRecDepth 100000 in
theorem fea_open {n : Nat} {cs : List Value} {y : DataW H × List MemPlace} (h : DataW.trod enc Tryd.prog W base spare held n 39 cs = some y) : ∃ f : Fea, FeC W f cs := by
  obtain ⟨xs, m, rfl, rfl, hlen, hxl, hf⟩ := DataW.trod_struct Tryd.underlying39 h
  rw [show Tryd.prog.cellsOf 39 = 6 by kernel_rfl] at hlen
  obtain ⟨c0, c1, c2, c3, c4, c5, rfl⟩ := list6 hlen
  obtain ⟨x0, x1, x2, x3, x4, x5, rfl⟩ := list6 hxl
  have h0 : DataW.trod enc Tryd.prog W base spare held m 3 (List.take (Tryd.prog.cellsOf 3) [c0, c1, c2, c3, c4, c5]) = some x0 := hf 0 _ rfl
  have h1 : DataW.trod enc Tryd.prog W base spare held m 3 (List.take (Tryd.prog.cellsOf 3) [c1, c2, c3, c4, c5]) = some x1 := hf 1 _ rfl
  have h2 : DataW.trod enc Tryd.prog W base spare held m 36 (List.take (Tryd.prog.cellsOf 36) [c2, c3, c4, c5]) = some x2 := hf 2 _ rfl
  have h3 : DataW.trod enc Tryd.prog W base spare held m 37 (List.take (Tryd.prog.cellsOf 37) [c3, c4, c5]) = some x3 := hf 3 _ rfl
  have h4 : DataW.trod enc Tryd.prog W base spare held m 3 (List.take (Tryd.prog.cellsOf 3) [c4, c5]) = some x4 := hf 4 _ rfl
  have h5 : DataW.trod enc Tryd.prog W base spare held m 3 (List.take (Tryd.prog.cellsOf 3) [c5]) = some x5 := hf 5 _ rfl
  rw [cells3] at h0 h1 h4 h5
  rw [cells36] at h2
  rw [cells37] at h3
  obtain ⟨a, e0, -, -⟩ := DataW.trod_int (k := .i64) (by kernel_rfl) h0
  obtain ⟨b, e1, -, -⟩ := DataW.trod_int (k := .i64) (by kernel_rfl) h1
  obtain ⟨p, A, c, e2, hp1, hp2⟩ := parts_open h2
  obtain ⟨t, A', c', e3, ht1, ht2⟩ := attrs_open h3
  obtain ⟨d, e4, -, -⟩ := DataW.trod_int (k := .i64) (by kernel_rfl) h4
  obtain ⟨e, e5, -, -⟩ := DataW.trod_int (k := .i64) (by kernel_rfl) h5
  simp only [List.take_succ_cons, List.take_zero, List.cons.injEq, and_true] at e0 e1 e2 e3 e4 e5
  subst e0 e1 e2 e3 e4 e5
  exact ⟨⟨a, b, p, t, d, e⟩, A, c, A', c', rfl, hp1, ht1, hp2, ht2⟩
theorem survey_open {n : Nat} {cs : List Value} {y : DataW H × List MemPlace} (h : DataW.trod enc Tryd.prog W base spare held n 33 cs = some y) : ∃ (l : List Fea) (A : Option Addr) (c : Nat), cs = [.slice A l.length c] ∧ l.length ≤ c ∧ RdS W A l :=
  reads_of_trod (R := FeC W) (size := 6) Tryd.underlying33 (by kernel_rfl) (fun _ _ _ h => fea_open h) h
end
theorem featChecks_any (l : List Fea) (A : Option Addr) (c : Nat) (kind : Int) (key : ByteArray) (w : World) (h : RdS w A l) (k1 : -9223372036854775808 ≤ kind) (k2 : kind ≤ 9223372036854775807) (hm : key.size ≤ 140737488351232) :
    Calls Tryd.prog 5 #[.slice A l.length c, .int .i64 kind, .string key] w fun e w' => e = .returned (.bool true) ∧ Below w.heap.size w w' := FeatChecks_any l kind key A c w h (by omega)
end Go.Proofs.YtgabpbnndikheaaDoor

