import Derived.Test.YtgabpbnndikheaaDoorVb
import Derived.Deep.DeepCutAuto
set_option linter.constructorNameAsVariable false
namespace Go.Proofs.YtgabpbnndikheaaDoor
open Go.RowKit Go.Proofs.YtgabpbnndikheaaDoorW.PrintWords

/-- A value in a block of its own. -/
def Boxed (w : World) (g : Nat) (x : Val) : Prop := w.heap[g]? = some (.cells #[.int .i64 x.kind, .int .i64 x.n, .string x.s, .bool x.b] 23 (0, 0))
theorem Boxed.lt {w : World} {g : Nat} {x : Val} (h : Boxed w g x) : g < w.heap.size := by
  rcases Nat.lt_or_ge g w.heap.size with h1 | h1
  · exact h1
  · unfold Boxed at h; rw [Array.getElem?_eq_none h1] at h; cases h
theorem Boxed.keep {w w' : World} {g : Nat} {x : Val} (h : Boxed w g x) (hb : Below w.heap.size w w') : Boxed w' g x := (hb.block g h.lt).trans h
theorem Boxed.c0 {w : World} {g : Nat} {x : Val} (h : Boxed w g x) : w.cell? ⟨g, 0, none⟩ = some (.int .i64 x.kind) := by unfold Boxed at h; simp [World.cell?, h]
theorem Boxed.c1 {w : World} {g : Nat} {x : Val} (h : Boxed w g x) : w.cell? ⟨g, 1, none⟩ = some (.int .i64 x.n) := by unfold Boxed at h; simp [World.cell?, h]
theorem Boxed.c2 {w : World} {g : Nat} {x : Val} (h : Boxed w g x) : w.cell? ⟨g, 2, none⟩ = some (.string x.s) := by unfold Boxed at h; simp [World.cell?, h]
theorem Boxed.c3 {w : World} {g : Nat} {x : Val} (h : Boxed w g x) : w.cell? ⟨g, 3, none⟩ = some (.bool x.b) := by unfold Boxed at h; simp [World.cell?, h]

theorem box1_elim {P : Program} {c : Code} {Q : Exit → Act → World → Prop} {a : Act} {w : World} {k n : Int} {s : ByteArray} {b : Bool}
    (h : ∀ w0, Aside0 (Below w.heap.size w w0) → Aside0 (Boxed w0 w.heap.size ⟨k, n, s, b⟩) → c.wp P Q a w0) : c.wp P Q a (w.alloc (.cells #[.int .i64 k, .int .i64 n, .string s, .bool b] 23)) :=
  h _ ⟨below_alloc' (Below.refl _ _) _⟩ ⟨heap_alloc_new w _⟩
theorem box2_elim {P : Program} {c : Code} {Q : Exit → Act → World → Prop} {a : Act} {w : World} {k n k' n' : Int} {s s' : ByteArray} {b b' : Bool}
    (h : ∀ w0, Aside0 (Below w.heap.size w w0) → Aside0 (Boxed w0 w.heap.size ⟨k, n, s, b⟩) → Aside0 (Boxed w0 (w.heap.size + 1) ⟨k', n', s', b'⟩) → c.wp P Q a w0) :
    c.wp P Q a ((w.alloc (.cells #[.int .i64 k, .int .i64 n, .string s, .bool b] 23)).alloc (.cells #[.int .i64 k', .int .i64 n', .string s', .bool b'] 23)) := by
  refine h _ ⟨below_alloc' (below_alloc' (Below.refl _ _) _) _⟩ ⟨Boxed.keep (heap_alloc_new w _) (below_alloc' (Below.refl _ _) _)⟩ ⟨?_⟩
  have := heap_alloc_new (w.alloc (.cells #[.int .i64 k, .int .i64 n, .string s, .bool b] 23)) (.cells #[.int .i64 k', .int .i64 n', .string s', .bool b'] 23)
  rw [World.size_alloc] at this
  exact this

def bi (b : Bool) : Int := if b then 1 else 0
def cmpVal (a b : Val) : Int := firstNZ [ord a.kind b.kind, ord a.n b.n, Lib.compareBytes a.s.data.toList b.s.data.toList, bi a.b - bi b.b]

theorem lit_C (W : World) (e : TypeId) (xs : List Int) (hm : xs.length ≤ 9223372036854775807) : (Kd.int .i64).C (W.alloc (.cells (xs.map (Value.int .i64)).toArray e)) (some ⟨W.heap.size, 0, none⟩) xs.length xs := by
  refine ⟨rfl, hm, fun _ => ⟨_, rfl, fun j p hj => ?_⟩⟩
  obtain ⟨hl, rfl⟩ := List.getElem?_eq_some_iff.1 hj
  refine ⟨[.int .i64 xs[j]], rfl, rfl, fun i u hu => ?_⟩
  obtain rfl : i = 0 := by
    have := (List.getElem?_eq_some_iff.1 hu).1
    simp at this; exact this
  simp at hu; subst hu
  have := World.news_of_block (cs := (xs.map (Value.int .i64)).toArray) (t := e) (fr := (0, 0)) (heap_alloc_new W _) j (.int .i64 xs[j]) (by simp [List.getElem?_eq_getElem hl])
  simpa [Kd.int, Kd.scalar] using this

/-- The four numbers of a comparison, the last one not named. -/
def Four (k1 k2 k3 r : Int) (v : Value) (W : World) : Prop := ∃ A q, v = .slice A 4 4 ∧ (Kd.int .i64).C W A 4 [k1, k2, k3, q] ∧ firstNZ [k1, k2, k3, q] = r

set_option maxHeartbeats 4000000 in
set_option maxRecDepth 100000 in
theorem cmp_any (x y : Val) (w : World) :
    Calls Tryd.prog 9 #[x.v, y.v] w fun e w' => e = .returned (.int .i64 (cmpVal x y)) ∧ Below w.heap.size w w' := by
  obtain ⟨xk, xn, xs, xb⟩ := x
  obtain ⟨yk, yn, ys, yb⟩ := y
  have hc : firstNZ [ord xk yk, ord xn yn, Lib.compareBytes xs.data.toList ys.data.toList, bi xb - bi yb] = cmpVal ⟨xk, xn, xs, xb⟩ ⟨yk, yn, ys, yb⟩ := rfl
  generalize cmpVal ⟨xk, xn, xs, xb⟩ ⟨yk, yn, ys, yb⟩ = r at *
  have HC := Aside0.mk hc
  clear hc
  unfold Val.v
  cases xb <;> cases yb
  all_goals
    go_enter Tryd.func9, Tryd.ntmps9
    go_wp2_with fail
    refine box2_elim fun w0 HB0 HX HY => ?_
    generalize hg : w.heap.size = g at *
    have HG := Aside0.mk hg
    clear hg
    refine wp_region_loc (by kernel_rfl) (by kernel_rfl) (by kernel_rfl) (fun xs => by simp only [fill, Act.put, List.setIfInBounds_toArray, List.set_cons_zero, List.set_cons_succ, Nat.reduceAdd]; rfl) ?_
    repeat (apply wpLoc_det; · (intro vs W hb he; have k1 := (HX.out.keep hb).c0; have k2 := (HX.out.keep hb).c1; have k3 := (HX.out.keep hb).c2; have k5 := (HY.out.keep hb).c0; have k6 := (HY.out.keep hb).c1; have k7 := (HY.out.keep hb).c2; simp only at k1 k2 k3 k5 k6 k7; simp [edgeSat, Region.binds, Fact.at_] at he; unfold locRun; go_simp; first | exact loc_val | (with_reducible exact loc_call_same (cmpInt_any _ _ W)) | (with_reducible exact loc_call_same (strcmp_any _ _ W))))
    apply wpLoc_fresh (Four (ord xk yk) (ord xn yn) (Lib.compareBytes xs.data.toList ys.data.toList) r)
    · exact fun u W W' hb ⟨A, q, e, h, h2⟩ => ⟨A, q, e, Kd.C_below h hb, h2⟩
    · intro vs W hb he
      simp [edgeSat, Region.binds, Fact.at_] at he
      unfold locRun
      go_simp
      exact ⟨below_alloc' (Below.refl _ _) _, _, _, rfl, lit_C W _ [_, _, _, _] (by simp), HC.out⟩
    apply wpLoc_det
    · intro vs W hb he
      simp [edgeSat, Region.binds, Fact.at_] at he
      obtain ⟨⟨A, q, e, h, h2⟩, _⟩ := he
      have H2 := Aside0.mk h2
      clear h2
      unfold locRun
      go_simp
      exact loc_call_same (H2.out ▸ or_any A 4 4 _ W rfl h)
    repeat (apply wpLoc_det; · (intro vs W hb he; simp [edgeSat, Region.binds, Fact.at_] at he; unfold locRun; go_simp; exact loc_val))
    refine wpLoc_nil fun vs W hb he => ?_
    simp only [List.nil_append, List.cons_append, factsAll, Fact.at_, Nat.reduceAdd] at he
    have h4 := he.2.2.2.2.2.2.2.2.2.2.2.2.2.2.2.2.2.2.2.2.1
    clear he
    go_wp2
    go_ret
    exact ⟨congrArg Ending.returned h4, HG.out ▸ HB0.out.trans (hb.mono (HG.out ▸ HB0.out.size))⟩
end Go.Proofs.YtgabpbnndikheaaDoor
