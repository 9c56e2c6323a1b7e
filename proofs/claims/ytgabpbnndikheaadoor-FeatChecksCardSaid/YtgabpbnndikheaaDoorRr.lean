import Derived.Test.YtgabpbnndikheaaDoorRm
/-! A region in a fixed order, told by the same facts: no branch splits the walk. -/
namespace Go.Proofs.YtgabpbnndikheaaDoor
open Go.RowKit
section
variable {P : Program}

theorem row_any {ops : Array Oper} {w0 : World} {a0 : Act} {Q : Exit → Act → World → Prop} {l : List Oper} {fs : List Fact} (hn : (l.map (·.dst)).Nodup) (hd : ∀ o ∈ l, ∃ d, o.dst = some d)
    (hlex : ∀ (j : Nat) (o : Oper), l[j]? = some o → ∀ e ∈ o.after.toList, Region.binds .any e = true → e.on < j) (hfl : fs.length = l.length) (hmono : ∀ f ∈ fs, f.mono)
    (hstep : ∀ (j : Nat) (o : Oper) (f : Fact), l[j]? = some o → fs[j]? = some f → ∀ xs w, Below w0.heap.size w0 w → edgeSat (fs.take j) xs w o.after.toList → if Region.wanted o (yielded ops (fill 0 l a0 xs).tmps) then locRun P o (fill 0 l a0 xs) w f else f.at_ undef w)
    (hend : ∀ xs w, Below w0.heap.size w0 w → factsAll xs w 0 fs → Q .normal (fill 0 l a0 xs) w) :
    ∀ (t : List Oper) (m : Nat) (xs : Nat → Value) (w : World), l.drop m = t → Below w0.heap.size w0 w → (∀ (j : Nat) (f : Fact), j < m → fs[j]? = some f → f.at_ (xs j) w) → wpList P ops Q t (fill 0 l a0 xs) w
  | [], m, xs, w, ht, hb, hf => by
    have hml : l.length ≤ m := List.drop_eq_nil_iff.1 ht
    exact hend xs w hb (factsAll_of fs 0 fun j f hj => by
      rw [Nat.zero_add]
      have hjl : j < l.length := by rw [← hfl]; exact (List.getElem?_eq_some_iff.1 hj).1
      exact hf j f (by omega) hj)
  | o :: t, m, xs, w, ht, hb, hf => by
    have hmo : l[m]? = some o := by
      have := congrArg List.head? ht
      rw [List.head?_drop, List.head?_cons] at this
      exact this
    have hml : m < l.length := (List.getElem?_eq_some_iff.1 hmo).1
    have ht' : l.drop (m + 1) = t := by rw [← List.drop_drop, ht, List.drop_one, List.tail_cons]
    have hfi : m < fs.length := by omega
    have hst := hstep m o fs[m] hmo (List.getElem?_eq_getElem hfi) xs w hb (edgeSat_of _ fun e he hbd f hfe => by
      have hlt := hlex m o hmo e he hbd
      rw [List.getElem?_take, if_pos hlt] at hfe
      exact hf _ f hlt hfe)
    have hput : ∀ u, (fill 0 l a0 xs).put o.dst u = fill 0 l a0 (fun j => if j = m then u else xs j) := by
      intro u
      have := fill_put (u := u) (i := m) l 0 a0 xs hn hml (fun o ho => by obtain ⟨d, hd⟩ := hd o ho; rw [hd]; rfl)
      simp only [Nat.zero_add] at this
      rw [show (l[m]?).bind (·.dst) = o.dst by simp [hmo]] at this
      exact this
    have hnext : ∀ u w', Below w.heap.size w w' → (fs[m]).at_ u w' → wpList P ops Q t ((fill 0 l a0 xs).put o.dst u) w' := by
      intro u w' hbw hfu
      rw [hput]
      refine row_any hn hd hlex hfl hmono hstep hend t (m + 1) _ w' ht' (hb.trans (hbw.mono hb.size)) fun j f hj hjf => ?_
      by_cases hjm : j = m
      · subst hjm
        rw [if_pos rfl]
        rw [List.getElem?_eq_getElem hfi] at hjf
        injection hjf with hjf
        rw [← hjf]
        exact hfu
      · rw [if_neg hjm]
        exact Fact.keep (hmono f (List.mem_of_getElem? hjf)) hbw (hf j f (by omega) hjf)
    unfold wpList
    by_cases hw : Region.wanted o (yielded ops (fill 0 l a0 xs).tmps) = true
    · rw [if_pos hw] at hst ⊢
      exact .inl (wp_of_loc hst hnext)
    · rw [if_neg hw] at hst ⊢
      exact hnext undef w (Below.refl _ _) hst
theorem wpList_gate {ops : Array Oper} {Q : Exit → Act → World → Prop} {a : Act} {w : World} (l : List Oper) (h : wpList P ops Q l a w) : wpList P ops Q l a w := h
/-- The rule: a region in a fixed order, its operations written out (where the walk stands at the first one). -/
theorem wpList_row {Q : Exit → Act → World → Prop} {a0 : Act} {w : World} {ops : Array Oper} (l : List Oper) {fr : (Nat → Value) → Act} (hops : ops = l.toArray)
    (hd : dstsOk a0.tmps.size l.toArray = true) (hl : lexOk l.toArray = true) (hfr : ∀ xs, fill 0 l a0 xs = fr xs) (h : wpLoc P l.toArray w fr (Q .normal) l []) : wpList P ops Q l a0 w := by
  subst hops
  obtain ⟨fs, hfl, hmono, hstep, hend⟩ := facts_of_wpLoc l [] h
  simp only [dstsOk, Bool.and_eq_true, List.all_eq_true, decide_eq_true_eq] at hd
  have hd2 : ∀ o ∈ l, ∃ d, o.dst = some d ∧ d < a0.tmps.size := fun o ho => by
    have := hd.1 o ho
    cases hod : o.dst with
    | none => rw [hod] at this; simp at this
    | some d => rw [hod] at this; exact ⟨d, rfl, by simpa using this⟩
  have hself : ∃ xs, fill 0 l a0 xs = a0 := by
    refine ⟨fun j => ((l[j]?).bind (·.dst)).elim undef fun d => a0.tmps.getD d undef, ?_⟩
    have : ∀ (l' : List Oper) (k : Nat) (ys : Nat → Value), (∀ o ∈ l', ∃ d, o.dst = some d ∧ d < a0.tmps.size) → (∀ j o, l'[j]? = some o → ys (k + j) = o.dst.elim undef fun d => a0.tmps.getD d undef) → fill k l' a0 ys = a0 := by
      intro l'
      induction l' with
      | nil => intros; rfl
      | cons o l' ih =>
        intro k ys h1 h2
        obtain ⟨d, hod, hdl⟩ := h1 o (by simp)
        have hk := h2 0 o rfl
        simp only [fill]
        have hp : a0.put o.dst (ys k) = a0 := by
          rw [Nat.add_zero] at hk
          rw [hk, hod]
          simp only [Act.put, Option.elim_some]
          have : a0.tmps.setIfInBounds d (a0.tmps.getD d undef) = a0.tmps := by
            apply Array.ext_getElem?
            intro i
            rw [Array.getElem?_setIfInBounds]
            by_cases hi : d = i
            · subst hi
              simp [hdl]
            · rw [if_neg hi]
          rw [this]
        rw [hp]
        exact ih (k + 1) ys (fun o ho => h1 o (by simp [ho])) fun j o hj => by
          have := h2 (j + 1) o (by simpa using hj)
          rwa [show k + (j + 1) = k + 1 + j by omega] at this
    exact this l 0 _ hd2 fun j o hj => by simp [hj]
  obtain ⟨xs, hxs⟩ := hself
  have := row_any (P := P) (ops := l.toArray) (l := l) (w0 := w) (a0 := a0) (Q := Q) (fs := fs) (by simpa using hd.2) (fun o ho => by obtain ⟨d, h, _⟩ := hd2 o ho; exact ⟨d, h⟩)
    (fun j o ho e he hb => by
      have hjl : j < l.length := (List.getElem?_eq_some_iff.1 ho).1
      have h1 := List.all_eq_true.1 hl j (List.mem_range.2 (by simpa using hjl))
      rw [show l.toArray[j]? = some o by simpa using ho] at h1
      have h2 := List.all_eq_true.1 h1 e he
      simpa [hb] using h2)
    hfl hmono
    (fun j o f ho hf xs w' hb he => by
      have := hstep j o f ho hf xs w' hb (by simpa using he)
      rw [← hfr] at this
      exact this)
    (fun xs w' hb hf => by rw [hfr]; exact hend xs w' hb (by simpa using hf))
    l 0 xs w (by simp) (Below.refl _ _) (fun j f hj => absurd hj (by omega))
  rw [hxs] at this
  exact this
theorem wp_region_row {id : Nat} {Q : Exit → Act → World → Prop} {a0 : Act} {w : World} {ops : Array Oper} (l : List Oper) {fr : (Nat → Value) → Act} (hops : ops = l.toArray)
    (hd : dstsOk a0.tmps.size l.toArray = true) (hl : lexOk l.toArray = true) (hfr : ∀ xs, fill 0 l a0 xs = fr xs) (h : wpLoc P l.toArray w fr (Q .normal) l []) : (Code.region id ops false).wp P Q a0 w := by
  subst hops
  exact wp_region_lit (wpList_row l rfl hd hl hfr h)
end
end Go.Proofs.YtgabpbnndikheaaDoor
