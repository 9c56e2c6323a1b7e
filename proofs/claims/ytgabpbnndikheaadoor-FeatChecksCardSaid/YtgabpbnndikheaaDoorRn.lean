import Derived.Test.YtgabpbnndikheaaDoorRt
import Derived.Laws.Rows
/-! A region that draws its order, makes new blocks among its first operations, and ends in operations that come one after the other. -/
namespace Go.Proofs.YtgabpbnndikheaaDoor
open Go.RowKit
section
variable {P : Program}

/-- The value is a new block's address. -/
def Born (w : World) (u : Value) (w' : World) : Prop := ∃ g, u = .pointer (some ⟨g, 0, none⟩) ∧ w.heap.size ≤ g ∧ g < w'.heap.size
def Apart (nws : List Nat) (xs : Nat → Value) : Prop := ∀ i ∈ nws, ∀ j ∈ nws, i ≠ j → xs i ≠ xs j
theorem loc_any_new {ops : Array Oper} {l t : List Oper} {ol : Oper} (hops : ops.toList = l ++ ol :: t) {w0 : World} {a0 : Act} {Q : Exit → Act → World → Prop} {fs : List Fact} (nws : List Nat) (hn : (l.map (·.dst)).Nodup) (hd : ∀ o ∈ l, ∃ d, o.dst = some d)
    (hlex : ∀ (j : Nat) (o : Oper), ops[j]? = some o → ∀ e ∈ o.after.toList, Region.binds .any e = true → e.on < j) (hcov : coverN l.length ops = true) (hrow : rowOk l.length ops = true) (hfl : fs.length = l.length) (hmono : ∀ f ∈ fs, f.mono)
    (hstep : ∀ (j : Nat) (o : Oper) (f : Fact), l[j]? = some o → fs[j]? = some f → ∀ xs w, Below w0.heap.size w0 w → edgeSat (fs.take j) xs w o.after.toList → if j ∈ nws then Region.wanted o (yielded ops (fill 0 l a0 xs).tmps) = true ∧ locRun P o (fill 0 l a0 xs) w (.fresh fun u w' => f.at_ u w' ∧ Born w u w') else if Region.wanted o (yielded ops (fill 0 l a0 xs).tmps) then locRun P o (fill 0 l a0 xs) w f else f.at_ undef w)
    (hnl : ∀ i ∈ nws, i < l.length) (hend : ∀ xs w, Below w0.heap.size w0 w → factsAll xs w 0 fs → Apart nws xs → wpSeq P ops Q (ol :: t) (fill 0 l a0 xs) w) :
    ∀ (fuel : Nat) (listed : Array Bool) (xs : Nat → Value) (w : World), listed.size = ops.size → (List.range ops.size).countP (fun j => listed.getD j true == false) = fuel → closed ops listed → (∀ j, l.length ≤ j → j < ops.size → listed.getD j true = false) → Below w0.heap.size w0 w →
      (∀ (j : Nat) (f : Fact), fs[j]? = some f → listed.getD j false = true → f.at_ (xs j) w) → (∀ i ∈ nws, listed.getD i false = true → ∃ g, xs i = .pointer (some ⟨g, 0, none⟩) ∧ g < w.heap.size) → (∀ i ∈ nws, ∀ j ∈ nws, i ≠ j → listed.getD i false = true → listed.getD j false = true → xs i ≠ xs j) → wpAny P .any ops Q fuel listed (fill 0 l a0 xs) w := by
  have hsize : ops.size = l.length + (t.length + 1) := by rw [← Array.length_toList, hops]; simp
  have hat : ∀ j, ops[j]? = (l ++ ol :: t)[j]? := fun j => by rw [← hops, Array.getElem?_toList]
  have htail : ops.toList.drop l.length = ol :: t := by rw [hops, List.drop_left]
  intro fuel
  induction fuel with
  | zero =>
    intro listed xs w hsz hc hcl hl0 hb hf hnw hap
    exfalso
    rw [List.countP_eq_zero] at hc
    refine hc l.length (List.mem_range.2 (by omega)) ?_
    rw [hl0 _ (Nat.le_refl _) (by omega)]; rfl
  | succ fuel ih =>
    intro listed xs w hsz hc hcl hl0 hb hf hnw hap
    by_cases hrdy : l.length ∈ Region.ready .any ops listed
    · have hothers := all_of_nth hcov hcl hrdy
      have hfacts : factsAll xs w 0 fs := factsAll_of fs 0 fun j f hj => by
        rw [Nat.zero_add]
        have hjl : j < l.length := by rw [← hfl]; exact (List.getElem?_eq_some_iff.1 hj).1
        exact hf j f hj (hothers j hjl)
      exact tail_any hrow hlex (ol :: t) l.length (fuel + 1) listed _ w htail (Nat.le_refl _) (by omega) hsz hothers hl0 hc (hend xs w hb hfacts fun i hi j hj hij => hap i hi j hj hij (hothers i (hnl i hi)) (hothers j (hnl j hj)))
    refine ⟨fun hr => ?_, fun i hi => ?_⟩
    · exfalso
      have hall : ∀ j, j < ops.size → listed.getD j false = true := by
        intro j
        induction j using Nat.strongRecOn with
        | _ j ihj =>
          intro hj
          cases hcj : listed.getD j false with
          | true => rfl
          | false =>
            exfalso
            have hmem : j ∈ Region.ready .any ops listed := by
              rw [mem_ready]
              refine ⟨?_, ops[j], Array.getElem?_eq_getElem hj, fun e he hbd => ?_⟩
              · have hjl : j < listed.size := by omega
                simp only [Array.getD_eq_getD_getElem?, Array.getElem?_eq_getElem hjl, Option.getD_some] at hcj ⊢
                exact hcj
              · have := hlex j _ (Array.getElem?_eq_getElem hj) e (Array.mem_toList_iff.2 he) hbd
                exact ihj _ this (by omega)
            rw [hr] at hmem
            cases hmem
      have h5 := hall l.length (by omega)
      have h6 := hl0 l.length (Nat.le_refl _) (by omega)
      rw [getD_sw (by omega)] at h6
      simp only [Bool.not_true] at h6
      rw [h5] at h6
      cases h6
    have hi' := hi
    rw [mem_ready] at hi'
    obtain ⟨h0, o, ho, hall⟩ := hi'
    have hil : i < ops.size := (Array.getElem?_eq_some_iff.1 ho).1
    have hil' : i < l.length := by
      rcases Nat.lt_trichotomy i l.length with hlt | he | hgt
      · exact hlt
      · subst he; exact absurd hi hrdy
      · exfalso
        obtain ⟨e, he, hb', hon⟩ := row_edge hrow ho hgt
        have h3 := hall e (Array.mem_toList_iff.1 he) hb'
        have h4 := hl0 e.on (by omega) (by omega)
        rw [getD_sw (by omega)] at h4
        simp only [Bool.not_true] at h4
        rw [h3] at h4
        cases h4
    have ho' : l[i]? = some o := by rw [hat, List.getElem?_append_left hil'] at ho; exact ho
    have hfi : i < fs.length := by omega
    have hst := hstep i o fs[i] ho' (List.getElem?_eq_getElem hfi) xs w hb (edgeSat_of _ fun e he hbd f hfe => by
      have hlt := hlex i o ho e he hbd
      rw [List.getElem?_take, if_pos hlt] at hfe
      exact hf _ f hfe (hall e (Array.mem_toList_iff.1 he) hbd))
    have hput : ∀ u, (fill 0 l a0 xs).put o.dst u = fill 0 l a0 (fun j => if j = i then u else xs j) := by
      intro u
      have := fill_put (u := u) (i := i) l 0 a0 xs hn hil' (fun o ho => by obtain ⟨d, hd⟩ := hd o ho; rw [hd]; rfl)
      simp only [Nat.zero_add] at this
      rw [show (l[i]?).bind (·.dst) = o.dst by simp [ho']] at this
      exact this
    have hcs := count_set hsz hil h0
    have hnext : ∀ u w', Below w.heap.size w w' → (fs[i]).at_ u w' → (i ∈ nws → Born w u w') → wpAny P .any ops Q fuel (listed.setIfInBounds i true) ((fill 0 l a0 xs).put o.dst u) w' := by
      intro u w' hbw hfu hborn
      rw [hput]
      refine ih _ _ _ (by simpa using hsz) (by omega) ?_ ?_ (hb.trans (hbw.mono hb.size)) (fun j f hj hl => ?_) (fun j hj hl => ?_) (fun j hj j' hj' hjj hl hl' => ?_)
      · intro j o2 hj hlj e he hbd
        by_cases hei : i = e.on
        · rw [← hei]
          have : i < listed.size := by omega
          simp [this]
        rw [getD_set_ne false hei]
        by_cases hij : i = j
        · subst hij
          rw [ho] at hj
          injection hj with hj
          subst hj
          exact hall e (Array.mem_toList_iff.1 he) hbd
        · rw [getD_set_ne false hij] at hlj
          exact hcl j o2 hj hlj e he hbd
      · intro j hj hjl
        rw [getD_set_ne true (fun e => by omega)]
        exact hl0 j hj hjl
      · by_cases hji : j = i
        · subst hji
          rw [if_pos rfl]
          rw [List.getElem?_eq_getElem hfi] at hj
          injection hj with hj
          rw [← hj]
          exact hfu
        · rw [if_neg hji]
          rw [getD_set_ne false (fun e => hji e.symm)] at hl
          exact Fact.keep (hmono f (List.mem_of_getElem? hj)) hbw (hf j f hj hl)
      · by_cases hji : j = i
        · subst hji
          obtain ⟨g, hg, _, hlt⟩ := hborn hj
          exact ⟨g, by rw [if_pos rfl]; exact hg, hlt⟩
        · rw [getD_set_ne false (fun e => hji e.symm)] at hl
          obtain ⟨g, hg, hlt⟩ := hnw j hj hl
          exact ⟨g, by rw [if_neg hji]; exact hg, Nat.lt_of_lt_of_le hlt hbw.size⟩
      · by_cases hji : j = i
        · subst hji
          obtain ⟨g, hg, hge, _⟩ := hborn hj
          rw [getD_set_ne false hjj] at hl'
          obtain ⟨g', hg', hlt⟩ := hnw j' hj' hl'
          simp only [if_true]
          rw [if_neg (fun e => hjj e.symm), hg, hg']
          intro he
          simp only [Value.pointer.injEq, Option.some.injEq, Addr.mk.injEq, and_true] at he
          omega
        · rw [getD_set_ne false (fun e => hji e.symm)] at hl
          by_cases hji' : j' = i
          · subst hji'
            obtain ⟨g, hg, hge, _⟩ := hborn hj'
            obtain ⟨g', hg', hlt⟩ := hnw j hj hl
            simp only [if_true]
            rw [if_neg hji, hg, hg']
            intro he
            simp only [Value.pointer.injEq, Option.some.injEq, Addr.mk.injEq, and_true] at he
            omega
          · rw [getD_set_ne false (fun e => hji' e.symm)] at hl'
            rw [if_neg hji, if_neg hji']
            exact hap j hj j' hj' hjj hl hl'
    unfold wpOp
    simp only [ho]
    by_cases hin : i ∈ nws
    · rw [if_pos hin] at hst
      rw [if_pos hst.1]
      exact .inl (wp_of_loc hst.2 fun u w' hbw h => hnext u w' hbw h.1 fun _ => h.2)
    rw [if_neg hin] at hst
    by_cases hw : Region.wanted o (yielded ops (fill 0 l a0 xs).tmps) = true
    · rw [if_pos hw] at hst ⊢
      exact .inl (wp_of_loc hst fun u w' hbw h => hnext u w' hbw h fun hi => absurd hi hin)
    · rw [if_neg hw] at hst ⊢
      exact hnext undef w (Below.refl _ _) hst fun hi => absurd hi hin

/-- One operation after the other; the ones that make a new block are told apart. -/
def wpLocN (P : Program) (ops : Array Oper) (w0 : World) (fr : (Nat → Value) → Act) (Q : Act → World → Prop) : List Oper → List Fact → List Nat → Prop
  | [], facts, nws => ∀ xs w, Below w0.heap.size w0 w → factsAll xs w 0 facts → Apart nws xs → Q (fr xs) w
  | o :: rest, facts, nws => ∃ f : Fact, f.mono ∧
      (((∀ xs w, Below w0.heap.size w0 w → edgeSat facts xs w o.after.toList → if Region.wanted o (yielded ops (fr xs).tmps) then locRun P o (fr xs) w f else f.at_ undef w) ∧ wpLocN P ops w0 fr Q rest (facts ++ [f]) nws)
      ∨ ((∀ xs w, Below w0.heap.size w0 w → edgeSat facts xs w o.after.toList → Region.wanted o (yielded ops (fr xs).tmps) = true ∧ locRun P o (fr xs) w (.fresh fun u w' => f.at_ u w' ∧ Born w u w')) ∧ wpLocN P ops w0 fr Q rest (facts ++ [f]) (nws ++ [facts.length])))

theorem wpLocN_nil {ops : Array Oper} {w0 : World} {fr : (Nat → Value) → Act} {Q : Act → World → Prop} {facts : List Fact} {nws : List Nat} (h : ∀ xs w, Below w0.heap.size w0 w → factsAll xs w 0 facts → Apart nws xs → Q (fr xs) w) : wpLocN P ops w0 fr Q [] facts nws := h
theorem wpLocN_det {ops : Array Oper} {w0 : World} {fr : (Nat → Value) → Act} {Q : Act → World → Prop} {facts : List Fact} {nws : List Nat} {o : Oper} {rest : List Oper} (v : Value)
    (h : ∀ xs w, Below w0.heap.size w0 w → edgeSat facts xs w o.after.toList → if Region.wanted o (yielded ops (fr xs).tmps) then locRun P o (fr xs) w (.det v) else v = undef) (hr : wpLocN P ops w0 fr Q rest (facts ++ [.det v]) nws) : wpLocN P ops w0 fr Q (o :: rest) facts nws :=
  ⟨.det v, trivial, .inl ⟨fun xs w hb he => by have := h xs w hb he; split at this <;> simp_all [Fact.at_], hr⟩⟩
theorem wpLocN_fresh {ops : Array Oper} {w0 : World} {fr : (Nat → Value) → Act} {Q : Act → World → Prop} {facts : List Fact} {nws : List Nat} {o : Oper} {rest : List Oper} (f : Value → World → Prop)
    (hm : ∀ u w w', Below w.heap.size w w' → f u w → f u w')
    (h : ∀ xs w, Below w0.heap.size w0 w → edgeSat facts xs w o.after.toList → if Region.wanted o (yielded ops (fr xs).tmps) then locRun P o (fr xs) w (.fresh f) else f undef w) (hr : wpLocN P ops w0 fr Q rest (facts ++ [.fresh f]) nws) : wpLocN P ops w0 fr Q (o :: rest) facts nws :=
  ⟨.fresh f, hm, .inl ⟨h, hr⟩⟩
/-- A new block with its content. -/
def Block (n : Nat) (b : Obj) (u : Value) (w : World) : Prop := ∃ g, u = .pointer (some ⟨g, 0, none⟩) ∧ n ≤ g ∧ w.heap[g]? = some b
theorem Apart.ne {nws : List Nat} {xs : Nat → Value} (h : Apart nws xs) {i j g g' : Nat} (hi : i ∈ nws) (hj : j ∈ nws) (hij : i ≠ j) (e : xs i = .pointer (some ⟨g, 0, none⟩)) (e' : xs j = .pointer (some ⟨g', 0, none⟩)) : g ≠ g' := by
  intro hg
  subst hg
  exact h i hi j hj hij (e.trans e'.symm)
theorem wpLocN_new {ops : Array Oper} {w0 : World} {fr : (Nat → Value) → Act} {Q : Act → World → Prop} {facts : List Fact} {nws : List Nat} {o : Oper} {rest : List Oper} (b : Obj)
    (h : ∀ xs w, Below w0.heap.size w0 w → edgeSat facts xs w o.after.toList → Region.wanted o (yielded ops (fr xs).tmps) = true ∧ (execOp (fr xs).eval o).run P w = .ok (.value (.pointer (some ⟨w.heap.size, 0, none⟩))) (w.alloc b))
    (hr : wpLocN P ops w0 fr Q rest (facts ++ [.fresh (Block w0.heap.size b)]) (nws ++ [facts.length])) : wpLocN P ops w0 fr Q (o :: rest) facts nws :=
  ⟨.fresh (Block w0.heap.size b), fun u w w' hb ⟨g, h1, hs, h2⟩ => ⟨g, h1, hs, (hb.block g (Array.getElem?_eq_some_iff.1 h2).1).trans h2⟩, .inr ⟨fun xs w hb he => by
    obtain ⟨h1, h2⟩ := h xs w hb he
    refine ⟨h1, ?_⟩
    unfold locRun
    rw [h2]
    exact ⟨(Below.refl _ _).alloc (Nat.le_refl _) _, ⟨w.heap.size, rfl, hb.size, heap_alloc_new w b⟩, w.heap.size, rfl, Nat.le_refl _, by rw [World.size_alloc]; exact Nat.lt_succ_self _⟩, hr⟩⟩

theorem facts_of_wpLocN {ops : Array Oper} {w0 : World} {fr : (Nat → Value) → Act} {Q : Act → World → Prop} : ∀ (l : List Oper) (facts : List Fact) (nws : List Nat), wpLocN P ops w0 fr Q l facts nws →
    ∃ (fs : List Fact) (nws' : List Nat), fs.length = l.length ∧ (∀ f ∈ fs, f.mono) ∧ (∀ i ∈ nws', facts.length ≤ i ∧ i < facts.length + l.length) ∧
      (∀ j o f, l[j]? = some o → fs[j]? = some f → ∀ xs w, Below w0.heap.size w0 w → edgeSat (facts ++ fs.take j) xs w o.after.toList → if facts.length + j ∈ nws' then Region.wanted o (yielded ops (fr xs).tmps) = true ∧ locRun P o (fr xs) w (.fresh fun u w' => f.at_ u w' ∧ Born w u w') else if Region.wanted o (yielded ops (fr xs).tmps) then locRun P o (fr xs) w f else f.at_ undef w) ∧
      (∀ xs w, Below w0.heap.size w0 w → factsAll xs w 0 (facts ++ fs) → Apart (nws ++ nws') xs → Q (fr xs) w)
  | [], facts, nws, h => ⟨[], [], rfl, by simp, by simp, fun j o f hj => by simp at hj, by simpa [wpLocN] using h⟩
  | o :: rest, facts, nws, ⟨f, hm, hs⟩ => by
    rcases hs with ⟨hs, hr⟩ | ⟨hs, hr⟩
    · obtain ⟨fs, nws', hl, hms, hin, hss, hq⟩ := facts_of_wpLocN rest _ _ hr
      refine ⟨f :: fs, nws', by simp [hl], by simpa using ⟨hm, hms⟩, fun i hi => ?_, fun j o' f' hj hf => ?_, by simpa using hq⟩
      · have := hin i hi
        simp only [List.length_append, List.length_cons, List.length_nil] at this ⊢
        omega
      · cases j with
        | zero =>
          simp at hj hf
          subst hj hf
          have hno : ¬ facts.length + 0 ∈ nws' := fun h => by have := hin _ h; simp only [List.length_append, List.length_cons, List.length_nil] at this; omega
          simp only [hno, if_false]
          simpa using hs
        | succ j =>
          simp at hj hf
          have := hss j o' f' hj hf
          rw [show (facts ++ [f]).length + j = facts.length + (j + 1) by simp; omega] at this
          simpa using this
    · obtain ⟨fs, nws', hl, hms, hin, hss, hq⟩ := facts_of_wpLocN rest _ _ hr
      refine ⟨f :: fs, facts.length :: nws', by simp [hl], by simpa using ⟨hm, hms⟩, fun i hi => ?_, fun j o' f' hj hf => ?_, by simpa using hq⟩
      · rcases List.mem_cons.1 hi with hi | hi
        · subst hi; simp
        · have := hin i hi
          simp only [List.length_append, List.length_cons, List.length_nil] at this ⊢
          omega
      · cases j with
        | zero =>
          simp at hj hf
          subst hj hf
          have hyes : facts.length + 0 ∈ facts.length :: nws' := by simp
          simp only [hyes, if_true]
          simpa using hs
        | succ j =>
          simp at hj hf
          have := hss j o' f' hj hf
          rw [show (facts ++ [f]).length + j = facts.length + (j + 1) by simp; omega] at this
          have hiff : facts.length + (j + 1) ∈ facts.length :: nws' ↔ facts.length + (j + 1) ∈ nws' := by
            rw [List.mem_cons]
            constructor
            · rintro (h | h)
              · omega
              · exact h
            · exact .inr
          simp only [hiff]
          simpa using this

/-- The rule: a region that draws its order and makes new blocks; its last operations come one after the other, behind all others. -/
theorem wp_region_new {id : Nat} {Q : Exit → Act → World → Prop} {a0 : Act} {w : World} {ops : Array Oper} (l t : List Oper) {ol : Oper} {fr : (Nat → Value) → Act} (hops : ops = (l ++ ol :: t).toArray) (hm : P.follows .mixedOrders = true)
    (hd : dstsOk a0.tmps.size l.toArray = true) (hl : lexOk (l ++ ol :: t).toArray = true) (hcov : coverN l.length (l ++ ol :: t).toArray = true) (hrow : rowOk l.length (l ++ ol :: t).toArray = true) (hfr : ∀ xs, fill 0 l a0 xs = fr xs)
    (h : wpLocN P (l ++ ol :: t).toArray w fr (wpSeq P (l ++ ol :: t).toArray Q (ol :: t)) l [] []) : (Code.region id ops true).wp P Q a0 w := by
  subst hops
  obtain ⟨fs, nws, hfl, hmono, hin, hstep, hend⟩ := facts_of_wpLocN l [] [] h
  simp only [dstsOk, Bool.and_eq_true, List.all_eq_true, decide_eq_true_eq] at hd
  refine wp_region_any hm ?_
  have hd2 : ∀ o ∈ l, ∃ d, o.dst = some d ∧ d < a0.tmps.size := fun o ho => by
    have := hd.1 o ho
    cases hod : o.dst with
    | none => rw [hod] at this; simp at this
    | some d => rw [hod] at this; exact ⟨d, rfl, by simpa using this⟩
  have hself : ∃ xs, fill 0 l a0 xs = a0 := by
    refine ⟨fun j => ((l[j]?).bind (·.dst)).elim undef fun d => a0.tmps.getD d undef, ?_⟩
    have : ∀ (l' : List Oper) (k : Nat) (ys : Nat → Value), (∀ o ∈ l', ∃ d, o.dst = some d ∧ d < a0.tmps.size) → (∀ j o, l'[j]? = some o → ys (k + j) = o.dst.elim undef fun d => a0.tmps.getD d undef) → fill k l' a0 ys = a0 := by
      intro l'
      induction l' with
      | nil => intros; rfl
      | cons o l' ih =>
        intro k ys h1 h2
        obtain ⟨d, hod, hdl⟩ := h1 o (by simp)
        have hk := h2 0 o rfl
        simp only [fill]
        have hp : a0.put o.dst (ys k) = a0 := by
          rw [Nat.add_zero] at hk
          rw [hk, hod]
          simp only [Act.put, Option.elim_some]
          have : a0.tmps.setIfInBounds d (a0.tmps.getD d undef) = a0.tmps := by
            apply Array.ext_getElem?
            intro i
            rw [Array.getElem?_setIfInBounds]
            by_cases hi : d = i
            · subst hi
              simp [hdl]
            · rw [if_neg hi]
          rw [this]
        rw [hp]
        exact ih (k + 1) ys (fun o ho => h1 o (by simp [ho])) fun j o hj => by
          have := h2 (j + 1) o (by simpa using hj)
          rwa [show k + (j + 1) = k + 1 + j by omega] at this
    exact this l 0 _ hd2 fun j o hj => by simp [hj]
  obtain ⟨xs, hxs⟩ := hself
  have hB : Below w.heap.size w { w with drawn := w.drawn + 1 } := ⟨rfl, rfl, rfl, Nat.le_refl _, fun _ _ => rfl⟩
  have := loc_any_new (P := P) (ops := (l ++ ol :: t).toArray) (l := l) (ol := ol) (t := t) (by simp) (w0 := w) (a0 := a0) (Q := Q) (fs := fs) nws hd.2 (fun o ho => by obtain ⟨d, h, _⟩ := hd2 o ho; exact ⟨d, h⟩)
    (fun j o ho e he hb => by
      have h1 := List.all_eq_true.1 hl j (List.mem_range.2 (Array.getElem?_eq_some_iff.1 ho).1)
      rw [ho] at h1
      have h2 := List.all_eq_true.1 h1 e he
      simpa [hb] using h2)
    hcov hrow hfl hmono
    (fun j o f ho hf xs w' hb he => by
      have := hstep j o f ho hf xs w' hb (by simpa using he)
      rw [← hfr] at this
      simpa using this)
    (fun i hi => by have := hin i hi; simpa using this.2) (fun xs w' hb hf hap => by rw [hfr]; exact hend xs w' hb (by simpa using hf) (by simpa using hap))
    (l ++ ol :: t).toArray.size (Array.replicate (l ++ ol :: t).toArray.size false) xs _ (by simp) (by
      rw [List.countP_eq_length.2]
      · simp
      · intro j hj
        have : j < l.length + (t.length + 1) := by simpa using hj
        simp [this]) (fun j o hj hl => by
      exfalso
      have : j < l.length + (t.length + 1) := by simpa using (Array.getElem?_eq_some_iff.1 hj).1
      simp [this] at hl) (fun j _ hj => by
      have : j < l.length + (t.length + 1) := by simpa using hj
      simp [this]) hB (fun j f hj hl => by
      exfalso
      have : j < l.length := by rw [← hfl]; exact (List.getElem?_eq_some_iff.1 hj).1
      have : j < l.length + (t.length + 1) := by omega
      simp [this] at hl) (fun i hi hl => by
      exfalso
      have h1 := (hin i hi).2
      have : i < l.length + (t.length + 1) := by simp only [List.length_nil] at h1; omega
      simp [this] at hl) (fun i hi j hj hij hl => by
      exfalso
      have h1 := (hin i hi).2
      have : i < l.length + (t.length + 1) := by simp only [List.length_nil] at h1; omega
      simp [this] at hl)
  rw [hxs] at this
  exact this
end
end Go.Proofs.YtgabpbnndikheaaDoor
