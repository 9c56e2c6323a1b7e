import Derived.Test.YtgabpbnndikheaaDoorNb
import Derived.Test.YtgabpbnndikheaaDoorGr
set_option linter.constructorNameAsVariable false
/-! Features and surveys. -/
namespace Go.Proofs.YtgabpbnndikheaaDoor
open Go.RowKit Go.Proofs.YtgabpbnndikheaaDoorW.PrintWords

structure Fea where
  id : Int
  kind : Int
  parts : List (List Pt)
  attrs : List Att
  fro : Int
  til : Int
/-- The cells of a feature. -/
def FeC (w : World) (f : Fea) (cs : List Value) : Prop := ∃ A c A' c', cs = [.int .i64 f.id, .int .i64 f.kind, .slice A f.parts.length c, .slice A' f.attrs.length c', .int .i64 f.fro, .int .i64 f.til] ∧ f.parts.length ≤ c ∧ f.attrs.length ≤ c' ∧ RdA w A f.parts ∧ RdT w A' f.attrs
theorem FeC.keep {w w' : World} {f : Fea} {cs : List Value} (h : FeC w f cs) (hb : Below w.heap.size w w') : FeC w' f cs := by
  obtain ⟨A, c, A', c', e, h1, h2, h3, h4⟩ := h
  exact ⟨A, c, A', c', e, h1, h2, h3.keep hb, h4.keep hb⟩
def RdS (w : World) (A : Option Addr) (l : List Fea) : Prop := ReadsRow (FeC w) 6 w A l.length l
theorem RdS.keep {w w' : World} {A : Option Addr} {l : List Fea} (h : RdS w A l) (hb : Below w.heap.size w w') : RdS w' A l := h.imp_ hb fun _ _ h => h.keep hb
def fea (l : List Fea) (i : Nat) : Fea := l.getD i ⟨0, 0, [], [], 0, 0⟩
theorem RdS.fea {w : World} {B : Option Addr} {l : List Fea} (h : RdS w B l) {i : Nat} (hi : i < l.length) :
    ∃ ad A c A' c', B = some ad ∧ w.cell? (ad.add (i * 6)) = some (.int .i64 (fea l i).id) ∧ w.cell? ⟨(ad.add (i * 6)).block, (ad.add (i * 6)).off + 1, none⟩ = some (.int .i64 (fea l i).kind)
      ∧ w.cell? ⟨(ad.add (i * 6)).block, (ad.add (i * 6)).off + 2, none⟩ = some (.slice A (fea l i).parts.length c) ∧ w.cell? ⟨(ad.add (i * 6)).block, (ad.add (i * 6)).off + 3, none⟩ = some (.slice A' (fea l i).attrs.length c')
      ∧ w.cell? ⟨(ad.add (i * 6)).block, (ad.add (i * 6)).off + 4, none⟩ = some (.int .i64 (fea l i).fro) ∧ w.cell? ⟨(ad.add (i * 6)).block, (ad.add (i * 6)).off + 5, none⟩ = some (.int .i64 (fea l i).til)
      ∧ (fea l i).parts.length ≤ c ∧ (fea l i).attrs.length ≤ c' ∧ RdA w A (fea l i).parts ∧ RdT w A' (fea l i).attrs := by
  have e2 : Go.Proofs.YtgabpbnndikheaaDoor.fea l i = l[i] := by unfold Go.Proofs.YtgabpbnndikheaaDoor.fea; rw [List.getD_eq_getElem?_getD, List.getElem?_eq_getElem hi]; rfl
  rw [e2]
  obtain ⟨ad, e, hc⟩ := h.2.2 (by omega)
  obtain ⟨cs, hs, ⟨A, c, A', c', hr, h1, h2, h3, h4⟩, hcell⟩ := hc i _ (List.getElem?_eq_getElem hi)
  subst hr
  have c0 := hcell 0 _ rfl
  have c1 := hcell 1 _ rfl
  have c2 := hcell 2 _ rfl
  have c3 := hcell 3 _ rfl
  have c4 := hcell 4 _ rfl
  have c5 := hcell 5 _ rfl
  rw [Nat.add_zero] at c0
  rw [add_field _ _ _ (by omega)] at c1 c2 c3 c4 c5
  exact ⟨ad, A, c, A', c', e, c0, c1, c2, c3, c4, c5, h1, h2, h3, h4⟩
def BoxF (w : World) (g : Nat) (id kind : Int) (p a : Value) (fro til : Int) : Prop := w.heap[g]? = some (.cells #[.int .i64 id, .int .i64 kind, p, a, .int .i64 fro, .int .i64 til] 39 (0, 0))
theorem BoxF.lt {w : World} {g : Nat} {id kind fro til : Int} {p a : Value} (h : BoxF w g id kind p a fro til) : g < w.heap.size := by
  unfold BoxF at h
  exact (Array.getElem?_eq_some_iff.1 h).1
theorem BoxF.keep {w w' : World} {g : Nat} {id kind fro til : Int} {p a : Value} (h : BoxF w g id kind p a fro til) (hb : Below w.heap.size w w') : BoxF w' g id kind p a fro til := (hb.block g h.lt).trans h
theorem BoxF.cs {w : World} {g : Nat} {id kind fro til : Int} {p a : Value} (h : BoxF w g id kind p a fro til) : w.cell? ⟨g, 0, none⟩ = some (.int .i64 id) ∧ w.cell? ⟨g, 1, none⟩ = some (.int .i64 kind) ∧ w.cell? ⟨g, 2, none⟩ = some p ∧ w.cell? ⟨g, 3, none⟩ = some a ∧ w.cell? ⟨g, 4, none⟩ = some (.int .i64 fro) ∧ w.cell? ⟨g, 5, none⟩ = some (.int .i64 til) := by
  unfold BoxF at h
  simp [World.cell?, h]
theorem boxF_c {P : Program} {g : FuncId} {args : Array Value} {K : Ending → World → Prop} {w : World} {id kind fro til : Int} {p a : Value}
    (h : ∀ w0, Aside0 (Below w.heap.size w w0) → Aside0 (BoxF w0 w.heap.size id kind p a fro til) → Calls P g args w0 K) : Calls P g args (w.alloc (.cells #[.int .i64 id, .int .i64 kind, p, a, .int .i64 fro, .int .i64 til] 39)) K :=
  h _ ⟨below_alloc' (Below.refl _ _) _⟩ ⟨heap_alloc_new w _⟩
def featErr (f : Fea) : Int := if f.id < 1 ∨ 1073741824 < f.id then 1 else if partsErr f.kind f.parts ≠ 0 then partsErr f.kind f.parts else if attrsErr f.attrs false ≠ 0 then attrsErr f.attrs false else if f.fro < 0 ∨ 1073741824 < f.til ∨ f.til ≤ f.fro then 1 else 0
set_option maxHeartbeats 4000000 in
set_option maxRecDepth 100000 in
theorem fcheck_any (f : Fea) (A A' : Option Addr) (c c' : Nat) (w : World) (hp : RdA w A f.parts) (hc : f.parts.length ≤ c) (ha : RdT w A' f.attrs) :
    Calls Tryd.prog 18 #[.agg #[.int .i64 f.id, .int .i64 f.kind, .slice A f.parts.length c, .slice A' f.attrs.length c', .int .i64 f.fro, .int .i64 f.til]] w fun e w' => e = .returned (.int .i64 (featErr f)) ∧ Below w.heap.size w w' := by
  have P1 := Aside0.mk (fun W (hb : Below w.heap.size w W) => parts_any f.kind f.parts A c W (hp.keep hb) hc)
  have P2 := Aside0.mk (fun W (hb : Below w.heap.size w W) => attrs_any f.attrs false A' c' W (ha.keep hb))
  clear hp ha hc
  obtain ⟨R, hR⟩ : ∃ R, R = featErr f := ⟨_, rfl⟩
  rw [← hR]
  unfold featErr at hR
  obtain ⟨id, kind, parts, attrs, fro, til⟩ := f
  simp only at P1 P2 hR ⊢
  generalize partsErr kind parts = m1 at *
  generalize attrsErr attrs false = m2 at *
  generalize parts.length = np at *
  generalize attrs.length = na at *
  by_cases h1 : id < 1
  · rw [if_pos (.inl h1)] at hR
    have d1 : decide (id < 1) = true := by simp; omega
    subst hR
    go_enter Tryd.func18, Tryd.ntmps18
    go_wp2
    go_ret
    exact ⟨rfl, below_alloc' (Below.refl _ _) _⟩
  have d1 : decide (id < 1) = false := by simp; omega
  by_cases h2 : 1073741824 < id
  · rw [if_pos (.inr h2)] at hR
    have d2 : decide (1073741824 < id) = true := by simp; omega
    subst hR
    go_enter Tryd.func18, Tryd.ntmps18
    go_wp2
    go_ret
    exact ⟨rfl, below_alloc' (Below.refl _ _) _⟩
  have d2 : decide (1073741824 < id) = false := by simp; omega
  rw [if_neg (by omega)] at hR
  by_cases h3 : m1 = 0
  rotate_left
  · rw [if_pos h3] at hR
    have hmb : (m1 == 0) = false := by simpa using h3
    have hmb2 : (m1 != 0) = true := by simpa using h3
    subst hR
    go_enter Tryd.func18, Tryd.ntmps18
    go_wp2_with (go_at_call 20; refine boxF_c fun w0 HB0 HX => ?_; (with_reducible refine (P1.out _ HB0.out).mono ?_); rintro e w2 ⟨rfl, hB⟩; have HB2 := Aside0.mk (below_call HB0.out hB); have HX2 := Aside0.mk (HX.out.keep hB); obtain ⟨k0, k1, k2, k3, k4, k5⟩ := HX2.out.cs; clear hB HB0 HX)
    go_ret
    exact ⟨rfl, HB2.out⟩
  rw [if_neg (by simpa using h3)] at hR
  subst h3
  by_cases h4 : m2 = 0
  rotate_left
  · rw [if_pos h4] at hR
    have hmb : (m2 == 0) = false := by simpa using h4
    have hmb2 : (m2 != 0) = true := by simpa using h4
    subst hR
    go_enter Tryd.func18, Tryd.ntmps18
    go_wp2_with (first | (go_at_call 20; refine boxF_c fun w0 HB0 HX => ?_; (with_reducible refine (P1.out _ HB0.out).mono ?_); rintro e w2 ⟨rfl, hB⟩; have HB2 := Aside0.mk (below_call HB0.out hB); have HX2 := Aside0.mk (HX.out.keep hB); obtain ⟨k0, k1, k2, k3, k4, k5⟩ := HX2.out.cs; clear hB HB0 HX) | (go_at_call 22; (with_reducible refine (P2.out _ HB2.out).mono ?_); rintro e w3 ⟨rfl, hB⟩; have HB3 := Aside0.mk (below_call HB2.out hB); obtain ⟨j0, j1, j2, j3, j4, j5⟩ := (HX2.out.keep hB).cs; clear hB))
    go_ret
    exact ⟨rfl, HB3.out⟩
  rw [if_neg (by simpa using h4)] at hR
  subst h4
  by_cases h5 : fro < 0
  · rw [if_pos (.inl h5)] at hR
    have d5 : decide (fro < 0) = true := by simp; omega
    subst hR
    go_enter Tryd.func18, Tryd.ntmps18
    go_wp2_with (first | (go_at_call 20; refine boxF_c fun w0 HB0 HX => ?_; (with_reducible refine (P1.out _ HB0.out).mono ?_); rintro e w2 ⟨rfl, hB⟩; have HB2 := Aside0.mk (below_call HB0.out hB); have HX2 := Aside0.mk (HX.out.keep hB); obtain ⟨k0, k1, k2, k3, k4, k5⟩ := HX2.out.cs; clear hB HB0 HX) | (go_at_call 22; (with_reducible refine (P2.out _ HB2.out).mono ?_); rintro e w3 ⟨rfl, hB⟩; have HB3 := Aside0.mk (below_call HB2.out hB); obtain ⟨j0, j1, j2, j3, j4, j5⟩ := (HX2.out.keep hB).cs; clear hB))
    go_ret
    exact ⟨rfl, HB3.out⟩
  have d5 : decide (fro < 0) = false := by simp; omega
  by_cases h6 : 1073741824 < til
  · rw [if_pos (.inr (.inl h6))] at hR
    have d6 : decide (1073741824 < til) = true := by simp; omega
    subst hR
    go_enter Tryd.func18, Tryd.ntmps18
    go_wp2_with (first | (go_at_call 20; refine boxF_c fun w0 HB0 HX => ?_; (with_reducible refine (P1.out _ HB0.out).mono ?_); rintro e w2 ⟨rfl, hB⟩; have HB2 := Aside0.mk (below_call HB0.out hB); have HX2 := Aside0.mk (HX.out.keep hB); obtain ⟨k0, k1, k2, k3, k4, k5⟩ := HX2.out.cs; clear hB HB0 HX) | (go_at_call 22; (with_reducible refine (P2.out _ HB2.out).mono ?_); rintro e w3 ⟨rfl, hB⟩; have HB3 := Aside0.mk (below_call HB2.out hB); obtain ⟨j0, j1, j2, j3, j4, j5⟩ := (HX2.out.keep hB).cs; clear hB))
    go_ret
    exact ⟨rfl, HB3.out⟩
  have d6 : decide (1073741824 < til) = false := by simp; omega
  by_cases h7 : til ≤ fro
  · rw [if_pos (.inr (.inr h7))] at hR
    have d7 : decide (til ≤ fro) = true := by simp; omega
    subst hR
    go_enter Tryd.func18, Tryd.ntmps18
    go_wp2_with (first | (go_at_call 20; refine boxF_c fun w0 HB0 HX => ?_; (with_reducible refine (P1.out _ HB0.out).mono ?_); rintro e w2 ⟨rfl, hB⟩; have HB2 := Aside0.mk (below_call HB0.out hB); have HX2 := Aside0.mk (HX.out.keep hB); obtain ⟨k0, k1, k2, k3, k4, k5⟩ := HX2.out.cs; clear hB HB0 HX) | (go_at_call 22; (with_reducible refine (P2.out _ HB2.out).mono ?_); rintro e w3 ⟨rfl, hB⟩; have HB3 := Aside0.mk (below_call HB2.out hB); obtain ⟨j0, j1, j2, j3, j4, j5⟩ := (HX2.out.keep hB).cs; clear hB))
    go_ret
    exact ⟨rfl, HB3.out⟩
  have d7 : decide (til ≤ fro) = false := by simp; omega
  rw [if_neg (by omega)] at hR
  subst hR
  go_enter Tryd.func18, Tryd.ntmps18
  go_wp2_with (first | (go_at_call 20; refine boxF_c fun w0 HB0 HX => ?_; (with_reducible refine (P1.out _ HB0.out).mono ?_); rintro e w2 ⟨rfl, hB⟩; have HB2 := Aside0.mk (below_call HB0.out hB); have HX2 := Aside0.mk (HX.out.keep hB); obtain ⟨k0, k1, k2, k3, k4, k5⟩ := HX2.out.cs; clear hB HB0 HX) | (go_at_call 22; (with_reducible refine (P2.out _ HB2.out).mono ?_); rintro e w3 ⟨rfl, hB⟩; have HB3 := Aside0.mk (below_call HB2.out hB); obtain ⟨j0, j1, j2, j3, j4, j5⟩ := (HX2.out.keep hB).cs; clear hB))
  go_ret
  exact ⟨rfl, HB3.out⟩
end Go.Proofs.YtgabpbnndikheaaDoor
