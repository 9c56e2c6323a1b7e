import Derived.Test.YtgabpbnndikheaaDoorGf
set_option linter.constructorNameAsVariable false
/-! Segments: shared ends. -/
namespace Go.Proofs.YtgabpbnndikheaaDoor
open Go.RowKit Go.Proofs.YtgabpbnndikheaaDoorW.PrintWords

def sharedPts (p q r s : Pt) : List Pt := addPt (addPt (addPt (addPt [] p r s) q r s) r p q) s p q
theorem addPt_len (l : List Pt) (p q r : Pt) : (addPt l p q r).length ≤ l.length + 1 := by unfold addPt; split <;> simp
theorem shared_len (p q r s : Pt) : (sharedPts p q r s).length ≤ 4 := by
  unfold sharedPts
  have h1 := addPt_len [] p r s
  have h2 := addPt_len (addPt [] p r s) q r s
  have h3 := addPt_len (addPt (addPt [] p r s) q r s) r p q
  have h4 := addPt_len (addPt (addPt (addPt [] p r s) q r s) r p q) s p q
  simp only [List.length_nil] at h1
  omega
theorem BoxP.under {w w' : World} {b B : Nat} {x : Pt} (h : BoxP w b x) (hb : Below B w w') (hlt : b < B) : BoxP w' b x := (hb.block b hlt).trans h
theorem boxS {P : Program} {g : FuncId} {args : Array Value} {K : Ending → World → Prop} {w : World} {m n m' n' m2 n2 m3 n3 : Int}
    (h : ∀ w0, Aside0 (Below w.heap.size w w0) → Aside0 (BoxP w0 w.heap.size ⟨m, n⟩) → Aside0 (BoxP w0 (w.heap.size + 1) ⟨m', n'⟩) → Aside0 (BoxP w0 (w.heap.size + 1 + 1) ⟨m2, n2⟩) → Aside0 (BoxP w0 (w.heap.size + 1 + 1 + 1) ⟨m3, n3⟩) → Aside0 (Holds w0 (w.heap.size + 1 + 1 + 1 + 1) []) → Calls P g args w0 K) :
    Calls P g args (((((w.alloc (.cells #[.int .i64 m, .int .i64 n] 73)).alloc (.cells #[.int .i64 m', .int .i64 n'] 73)).alloc (.cells #[.int .i64 m2, .int .i64 n2] 73)).alloc (.cells #[.int .i64 m3, .int .i64 n3] 73)).alloc (.cells #[.slice none 0 0] 68)) K := by
  obtain ⟨W1, e1⟩ : ∃ W1, W1 = w.alloc (.cells #[.int .i64 m, .int .i64 n] 73) := ⟨_, rfl⟩
  obtain ⟨W2, e2⟩ : ∃ W2, W2 = W1.alloc (.cells #[.int .i64 m', .int .i64 n'] 73) := ⟨_, rfl⟩
  obtain ⟨W3, e3⟩ : ∃ W3, W3 = W2.alloc (.cells #[.int .i64 m2, .int .i64 n2] 73) := ⟨_, rfl⟩
  obtain ⟨W4, e4⟩ : ∃ W4, W4 = W3.alloc (.cells #[.int .i64 m3, .int .i64 n3] 73) := ⟨_, rfl⟩
  rw [← e1, ← e2, ← e3, ← e4]
  have h1 : BoxP W1 w.heap.size ⟨m, n⟩ := by rw [e1]; exact boxP_alloc w ⟨m, n⟩
  have h2 : BoxP W2 W1.heap.size ⟨m', n'⟩ := by rw [e2]; exact boxP_alloc W1 ⟨m', n'⟩
  have h3 : BoxP W3 W2.heap.size ⟨m2, n2⟩ := by rw [e3]; exact boxP_alloc W2 ⟨m2, n2⟩
  have h4 : BoxP W4 W3.heap.size ⟨m3, n3⟩ := by rw [e4]; exact boxP_alloc W3 ⟨m3, n3⟩
  have b1 : Below w.heap.size w W1 := by rw [e1]; exact below_alloc' (Below.refl _ _) _
  have b2 : Below W1.heap.size W1 W2 := by rw [e2]; exact below_alloc' (Below.refl _ _) _
  have b3 : Below W2.heap.size W2 W3 := by rw [e3]; exact below_alloc' (Below.refl _ _) _
  have b4 : Below W3.heap.size W3 W4 := by rw [e4]; exact below_alloc' (Below.refl _ _) _
  have b5 : Below W4.heap.size W4 (W4.alloc (.cells #[.slice none 0 0] 68)) := below_alloc' (Below.refl _ _) _
  have s1 : W1.heap.size = w.heap.size + 1 := by rw [e1, World.size_alloc]
  have s2 : W2.heap.size = W1.heap.size + 1 := by rw [e2, World.size_alloc]
  have s3 : W3.heap.size = W2.heap.size + 1 := by rw [e3, World.size_alloc]
  have s4 : W4.heap.size = W3.heap.size + 1 := by rw [e4, World.size_alloc]
  have hn := heap_alloc_new W4 (.cells #[.slice none 0 0] 68)
  rw [s4, s3, s2, s1] at hn
  rw [s1] at h2
  rw [s2, s1] at h3
  rw [s3, s2, s1] at h4
  exact h _ ⟨below_call (below_call (below_call (below_call b1 b2) b3) b4) b5⟩ ⟨(((h1.keep b2).keep b3).keep b4).keep b5⟩ ⟨((h2.keep b3).keep b4).keep b5⟩ ⟨(h3.keep b4).keep b5⟩ ⟨h4.keep b5⟩
    ⟨_, hn, OwnRow.none_ _ _ _ _ _⟩
set_option maxRecDepth 100000 in
theorem shared_any (p q r s : Pt) (w : World) :
    Calls Tryd.prog 144 #[p.v, q.v, r.v, s.v] w fun e w' => ∃ v, e = .returned v ∧ OwnP w' w.heap.size v (sharedPts p q r s) ∧ Below w.heap.size w w' := by
  have l1 := addPt_len [] p r s
  have l2 := addPt_len (addPt [] p r s) q r s
  have l3 := addPt_len (addPt (addPt [] p r s) q r s) r p q
  have a1 := fun g W h => add_any p r s g [] W h (by simp)
  have a2 := fun g W h => add_any q r s g (addPt [] p r s) W h (by simp only [List.length_nil] at l1; omega)
  have a3 := fun g W h => add_any r p q g (addPt (addPt [] p r s) q r s) W h (by simp only [List.length_nil] at l1; omega)
  have a4 := fun g W h => add_any s p q g (addPt (addPt (addPt [] p r s) q r s) r p q) W h (by simp only [List.length_nil] at l1; omega)
  change ∀ g W, _ → Calls _ _ _ W fun e w' => _ ∧ _ ∧ Holds w' g (sharedPts p q r s) at a4
  generalize sharedPts p q r s = R4 at *
  generalize addPt (addPt (addPt [] p r s) q r s) r p q = R3 at *
  generalize addPt (addPt [] p r s) q r s = R2 at *
  generalize addPt [] p r s = R1 at *
  clear l1 l2 l3
  have A1 := Aside0.mk a1
  have A2 := Aside0.mk a2
  have A3 := Aside0.mk a3
  have A4 := Aside0.mk a4
  clear a1 a2 a3 a4
  obtain ⟨px, py⟩ := p
  obtain ⟨qx, qy⟩ := q
  obtain ⟨rx, ry⟩ := r
  obtain ⟨sx, sy⟩ := s
  simp only [Pt.v] at *
  go_enter Tryd.func144, Tryd.ntmps144
  go_wp2_with (go_at_call 150; first
    | (refine boxS fun w0 HB0 HX HY HZ HU HH => ?_; refine (A1.out _ w0 HH.out).mono ?_; rintro e w1 ⟨rfl, hB, hH⟩; have HB1 := Aside0.mk (HB0.out.trans (hB.mono (by omega))); have HH1 := Aside0.mk hH; have HX1 := Aside0.mk (HX.out.under hB (by omega)); have HY1 := Aside0.mk (HY.out.under hB (by omega)); have HZ1 := Aside0.mk (HZ.out.under hB (by omega)); have HU1 := Aside0.mk (HU.out.under hB (by omega)); clear hB hH HB0 HH HX HY HZ HU; obtain ⟨k1, k2⟩ := HX1.out.cs; obtain ⟨k3, k4⟩ := HY1.out.cs; obtain ⟨k5, k6⟩ := HZ1.out.cs; obtain ⟨k7, k8⟩ := HU1.out.cs; simp only at k1 k2 k3 k4 k5 k6 k7 k8)
    | (refine (A2.out _ w1 HH1.out).mono ?_; rintro e w2 ⟨rfl, hB, hH⟩; have HB2 := Aside0.mk (HB1.out.trans (hB.mono (by omega))); have HH2 := Aside0.mk hH; have HX2 := Aside0.mk (HX1.out.under hB (by omega)); have HY2 := Aside0.mk (HY1.out.under hB (by omega)); have HZ2 := Aside0.mk (HZ1.out.under hB (by omega)); have HU2 := Aside0.mk (HU1.out.under hB (by omega)); clear hB hH HB1 HH1 HX1 HY1 HZ1 HU1 k1 k2 k3 k4 k5 k6 k7 k8; obtain ⟨k1, k2⟩ := HX2.out.cs; obtain ⟨k3, k4⟩ := HY2.out.cs; obtain ⟨k5, k6⟩ := HZ2.out.cs; obtain ⟨k7, k8⟩ := HU2.out.cs; simp only at k1 k2 k3 k4 k5 k6 k7 k8)
    | (refine (A3.out _ w2 HH2.out).mono ?_; rintro e w3 ⟨rfl, hB, hH⟩; have HB3 := Aside0.mk (HB2.out.trans (hB.mono (by omega))); have HH3 := Aside0.mk hH; have HX3 := Aside0.mk (HX2.out.under hB (by omega)); have HY3 := Aside0.mk (HY2.out.under hB (by omega)); have HZ3 := Aside0.mk (HZ2.out.under hB (by omega)); have HU3 := Aside0.mk (HU2.out.under hB (by omega)); clear hB hH HB2 HH2 HX2 HY2 HZ2 HU2 k1 k2 k3 k4 k5 k6 k7 k8; obtain ⟨k1, k2⟩ := HX3.out.cs; obtain ⟨k3, k4⟩ := HY3.out.cs; obtain ⟨k5, k6⟩ := HZ3.out.cs; obtain ⟨k7, k8⟩ := HU3.out.cs; simp only at k1 k2 k3 k4 k5 k6 k7 k8)
    | (refine (A4.out _ w3 HH3.out).mono ?_; rintro e w4 ⟨rfl, hB, hH⟩; have HB4 := Aside0.mk (HB3.out.trans (hB.mono (by omega))); obtain ⟨v, hg, hO⟩ := hH; obtain ⟨k9, -⟩ := holds_cell hg; obtain ⟨AA, cc, rfl, -⟩ := OwnRow.slice_ hO; have HO4 := Aside0.mk (OwnRow.lower hO (by omega : w.heap.size ≤ _)); clear hB hg hO HB3 HH3 HX3 HY3 HZ3 HU3 k1 k2 k3 k4 k5 k6 k7 k8))
  go_ret
  exact ⟨_, rfl, HO4.out, HB4.out⟩
end Go.Proofs.YtgabpbnndikheaaDoor
