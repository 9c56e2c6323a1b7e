import Derived.Test.YtgabpbnndikheaaDoorRl
/-! A region that draws its order and ends in operations that come one after the other. -/
namespace Go.Proofs.YtgabpbnndikheaaDoor
open Go.RowKit
section
variable {P : Program}

theorem count_set {n i : Nat} {listed : Array Bool} (hsz : listed.size = n) (hil : i < n) (h0 : listed.getD i true = false) :
    (List.range n).countP (fun j => listed.getD j true == false) = (List.range n).countP (fun j => (listed.setIfInBounds i true).getD j true == false) + 1 := by
  have hnd : (List.range n).Nodup := List.nodup_range
  have hmem : i ∈ List.range n := List.mem_range.2 hil
  generalize List.range n = l at hnd hmem
  induction l with
  | nil => cases hmem
  | cons x l ihl =>
    obtain ⟨hx, hnd⟩ := List.nodup_cons.1 hnd
    by_cases hxi : x = i
    · subst hxi
      have e2 : (listed.setIfInBounds x true).getD x true = true := by
        have : x < listed.size := by omega
        simp [this]
      rw [List.countP_cons, List.countP_cons, h0, e2]
      have : l.countP (fun j => listed.getD j true == false) = l.countP (fun j => (listed.setIfInBounds x true).getD j true == false) := by
        refine List.countP_congr fun y hy => ?_
        have hne : x ≠ y := fun e => hx (e ▸ hy)
        rw [getD_set_ne true hne]
      rw [this]
      simp
    · have hm : i ∈ l := by
        rcases List.mem_cons.1 hmem with h | h
        · exact absurd h.symm hxi
        · exact h
      rw [List.countP_cons, List.countP_cons, getD_set_ne true (fun e => hxi e.symm), ihl hnd hm]
      omega
theorem getD_sw {listed : Array Bool} {j : Nat} (h : j < listed.size) (b : Bool) : listed.getD j b = listed.getD j (!b) := by
  simp only [Array.getD_eq_getD_getElem?, Array.getElem?_eq_getElem h, Option.getD_some]

/-- The operations one after the other. -/
def wpSeq (P : Program) (ops : Array Oper) (Q : Exit → Act → World → Prop) : List Oper → Act → World → Prop
  | [], a, w => Q .normal a w
  | o :: t, a, w => if Region.wanted o (yielded ops a.tmps) then o.wp P a w (wpSeq P ops Q t) Q else wpSeq P ops Q t (a.put o.dst undef) w
/-- From the n-th on each operation waits for the one before it. -/
def rowOk (n : Nat) (ops : Array Oper) : Bool := (List.range ops.size).all fun j => decide (j ≤ n) || (match ops[j]? with | some o => o.after.toList.any fun e => Region.binds .any e && (e.on + 1 == j) | none => false)
theorem row_edge {n : Nat} {ops : Array Oper} (h : rowOk n ops = true) {j : Nat} {o : Oper} (ho : ops[j]? = some o) (hj : n < j) : ∃ e ∈ o.after.toList, Region.binds .any e = true ∧ e.on + 1 = j := by
  have h1 := List.all_eq_true.1 h j (List.mem_range.2 (Array.getElem?_eq_some_iff.1 ho).1)
  rw [ho] at h1
  simp only [Bool.or_eq_true, decide_eq_true_eq, List.any_eq_true, Bool.and_eq_true, beq_iff_eq] at h1
  rcases h1 with h1 | ⟨e, he, hb, hon⟩
  · omega
  · exact ⟨e, he, hb, hon⟩
theorem tail_any {ops : Array Oper} {Q : Exit → Act → World → Prop} {n : Nat} (hrow : rowOk n ops = true) (hlex : ∀ (j : Nat) (o : Oper), ops[j]? = some o → ∀ e ∈ o.after.toList, Region.binds .any e = true → e.on < j) :
    ∀ (t : List Oper) (m fuel : Nat) (listed : Array Bool) (a : Act) (w : World), ops.toList.drop m = t → n ≤ m → m ≤ ops.size → listed.size = ops.size → (∀ j, j < m → listed.getD j false = true) → (∀ j, m ≤ j → j < ops.size → listed.getD j true = false) →
      (List.range ops.size).countP (fun j => listed.getD j true == false) = fuel → wpSeq P ops Q t a w → wpAny P .any ops Q fuel listed a w
  | [], m, fuel, listed, a, w, ht, hnm, hm, hsz, h1, h2, hc, h => by
    have hml : ops.size ≤ m := by
      have := List.drop_eq_nil_iff.1 ht
      simpa using this
    exact wpAny_done (ready_nil hsz fun j hj => h1 j (by omega)) h
  | o :: t, m, fuel, listed, a, w, ht, hnm, hm, hsz, h1, h2, hc, h => by
    have hmo : ops[m]? = some o := by
      have := congrArg List.head? ht
      rw [List.head?_drop, List.head?_cons, Array.getElem?_toList] at this
      exact this
    have hml : m < ops.size := (Array.getElem?_eq_some_iff.1 hmo).1
    have ht' : ops.toList.drop (m + 1) = t := by
      rw [← List.drop_drop, ht, List.drop_one, List.tail_cons]
    have hcs := count_set hsz hml (h2 m (Nat.le_refl _) hml)
    have hready : m ∈ Region.ready .any ops listed := by
      rw [mem_ready]
      exact ⟨h2 m (Nat.le_refl _) hml, o, hmo, fun e he hb => h1 _ (hlex m o hmo e (Array.mem_toList_iff.2 he) hb)⟩
    cases fuel with
    | zero => exfalso; omega
    | succ fuel =>
      refine ⟨fun hr => (by rw [hr] at hready; cases hready), fun i hi => ?_⟩
      have hi' := hi
      rw [mem_ready] at hi'
      obtain ⟨h0, o', ho', hall⟩ := hi'
      have hil : i < ops.size := (Array.getElem?_eq_some_iff.1 ho').1
      have him : i = m := by
        rcases Nat.lt_trichotomy i m with hlt | he | hgt
        · have := h1 i hlt
          rw [getD_sw (by omega)] at this
          simp only [Bool.not_false] at this
          rw [h0] at this
          cases this
        · exact he
        · obtain ⟨e, he, hb, hon⟩ := row_edge hrow ho' (by omega)
          have h3 := hall e (Array.mem_toList_iff.1 he) hb
          have h4 := h2 e.on (by omega) (by omega)
          rw [getD_sw (by omega)] at h4
          simp only [Bool.not_true] at h4
          rw [h3] at h4
          cases h4
      subst him
      rw [hmo] at ho'
      injection ho' with ho'
      subst ho'
      have hgo : ∀ a' w', wpSeq P ops Q t a' w' → wpAny P .any ops Q fuel (listed.setIfInBounds i true) a' w' := fun a' w' h' => by
        refine tail_any hrow hlex t (i + 1) fuel _ a' w' ht' (by omega) (by omega) (by simpa using hsz) (fun j hj => ?_) (fun j hj hjl => ?_) (by omega) h'
        · by_cases hij : i = j
          · subst hij
            have : i < listed.size := by omega
            simp [this]
          · rw [getD_set_ne false hij]
            exact h1 j (by omega)
        · rw [getD_set_ne true (by omega)]
          exact h2 j (by omega) hjl
      unfold wpOp
      simp only [hmo]
      unfold wpSeq at h
      split
      · rename_i hw
        rw [if_pos hw] at h
        exact .inl (Oper.wp_mono hgo h)
      · rename_i hw
        rw [if_neg hw] at h
        exact hgo _ _ h
/-- Each of the first n operations is waited for by a later one, at most the n-th. -/
def coverN (n : Nat) (ops : Array Oper) : Bool := (List.range n).all fun j => (List.range (n + 1)).any fun k => decide (j < k) && (match ops[k]? with | some o => o.after.toList.any fun e => Region.binds .any e && (e.on == j) | none => false)
theorem all_of_nth {ops : Array Oper} {listed : Array Bool} {n : Nat} (hc : coverN n ops = true) (hcl : closed ops listed) (hr : n ∈ Region.ready .any ops listed) : ∀ j, j < n → listed.getD j false = true := by
  have key : ∀ d j, j + d = n → j < n → listed.getD j false = true := by
    intro d
    induction d using Nat.strongRecOn with
    | _ d ih =>
      intro j hjd hj
      have h1 := List.all_eq_true.1 hc j (List.mem_range.2 hj)
      obtain ⟨k, hk, h2⟩ := List.any_eq_true.1 h1
      rw [List.mem_range] at hk
      simp only [Bool.and_eq_true, decide_eq_true_eq] at h2
      obtain ⟨hjk, h2⟩ := h2
      cases hok : ops[k]? with
      | none => rw [hok] at h2; cases h2
      | some o =>
        rw [hok] at h2
        simp only [List.any_eq_true, Bool.and_eq_true, beq_iff_eq] at h2
        obtain ⟨e, he, hb, hon⟩ := h2
        by_cases hkn : k = n
        · subst hkn
          rw [mem_ready] at hr
          obtain ⟨_, o', ho, hall⟩ := hr
          rw [hok] at ho
          injection ho with ho
          subst ho
          have := hall e (Array.mem_toList_iff.1 he) hb
          rwa [hon] at this
        · have hl := ih (n - k) (by omega) k (by omega) (by omega)
          have := hcl k _ hok hl e he hb
          rwa [hon] at this
  intro j hj
  exact key (n - j) j (by omega) hj

theorem loc_any_tail {ops : Array Oper} {l t : List Oper} {ol : Oper} (hops : ops.toList = l ++ ol :: t) {w0 : World} {a0 : Act} {Q : Exit → Act → World → Prop} {fs : List Fact} (hn : (l.map (·.dst)).Nodup) (hd : ∀ o ∈ l, ∃ d, o.dst = some d)
    (hlex : ∀ (j : Nat) (o : Oper), ops[j]? = some o → ∀ e ∈ o.after.toList, Region.binds .any e = true → e.on < j) (hcov : coverN l.length ops = true) (hrow : rowOk l.length ops = true) (hfl : fs.length = l.length) (hmono : ∀ f ∈ fs, f.mono)
    (hstep : ∀ (j : Nat) (o : Oper) (f : Fact), l[j]? = some o → fs[j]? = some f → ∀ xs w, Below w0.heap.size w0 w → edgeSat (fs.take j) xs w o.after.toList → if Region.wanted o (yielded ops (fill 0 l a0 xs).tmps) then locRun P o (fill 0 l a0 xs) w f else f.at_ undef w)
    (hend : ∀ xs w, Below w0.heap.size w0 w → factsAll xs w 0 fs → wpSeq P ops Q (ol :: t) (fill 0 l a0 xs) w) :
    ∀ (fuel : Nat) (listed : Array Bool) (xs : Nat → Value) (w : World), listed.size = ops.size → (List.range ops.size).countP (fun j => listed.getD j true == false) = fuel → closed ops listed → (∀ j, l.length ≤ j → j < ops.size → listed.getD j true = false) → Below w0.heap.size w0 w →
      (∀ (j : Nat) (f : Fact), fs[j]? = some f → listed.getD j false = true → f.at_ (xs j) w) → wpAny P .any ops Q fuel listed (fill 0 l a0 xs) w := by
  have hsize : ops.size = l.length + (t.length + 1) := by rw [← Array.length_toList, hops]; simp
  have hat : ∀ j, ops[j]? = (l ++ ol :: t)[j]? := fun j => by rw [← hops, Array.getElem?_toList]
  have htail : ops.toList.drop l.length = ol :: t := by rw [hops, List.drop_left]
  intro fuel
  induction fuel with
  | zero =>
    intro listed xs w hsz hc hcl hl0 hb hf
    exfalso
    rw [List.countP_eq_zero] at hc
    refine hc l.length (List.mem_range.2 (by omega)) ?_
    rw [hl0 _ (Nat.le_refl _) (by omega)]; rfl
  | succ fuel ih =>
    intro listed xs w hsz hc hcl hl0 hb hf
    by_cases hrdy : l.length ∈ Region.ready .any ops listed
    · have hothers := all_of_nth hcov hcl hrdy
      have hfacts : factsAll xs w 0 fs := factsAll_of fs 0 fun j f hj => by
        rw [Nat.zero_add]
        have hjl : j < l.length := by rw [← hfl]; exact (List.getElem?_eq_some_iff.1 hj).1
        exact hf j f hj (hothers j hjl)
      exact tail_any hrow hlex (ol :: t) l.length (fuel + 1) listed _ w htail (Nat.le_refl _) (by omega) hsz hothers hl0 hc (hend xs w hb hfacts)
    refine ⟨fun hr => ?_, fun i hi => ?_⟩
    · exfalso
      have hall : ∀ j, j < ops.size → listed.getD j false = true := by
        intro j
        induction j using Nat.strongRecOn with
        | _ j ihj =>
          intro hj
          cases hcj : listed.getD j false with
          | true => rfl
          | false =>
            exfalso
            have hmem : j ∈ Region.ready .any ops listed := by
              rw [mem_ready]
              refine ⟨?_, ops[j], Array.getElem?_eq_getElem hj, fun e he hbd => ?_⟩
              · have hjl : j < listed.size := by omega
                simp only [Array.getD_eq_getD_getElem?, Array.getElem?_eq_getElem hjl, Option.getD_some] at hcj ⊢
                exact hcj
              · have := hlex j _ (Array.getElem?_eq_getElem hj) e (Array.mem_toList_iff.2 he) hbd
                exact ihj _ this (by omega)
            rw [hr] at hmem
            cases hmem
      have h5 := hall l.length (by omega)
      have h6 := hl0 l.length (Nat.le_refl _) (by omega)
      rw [getD_sw (by omega)] at h6
      simp only [Bool.not_true] at h6
      rw [h5] at h6
      cases h6
    have hi' := hi
    rw [mem_ready] at hi'
    obtain ⟨h0, o, ho, hall⟩ := hi'
    have hil : i < ops.size := (Array.getElem?_eq_some_iff.1 ho).1
    have hil' : i < l.length := by
      rcases Nat.lt_trichotomy i l.length with hlt | he | hgt
      · exact hlt
      · subst he; exact absurd hi hrdy
      · exfalso
        obtain ⟨e, he, hb', hon⟩ := row_edge hrow ho hgt
        have h3 := hall e (Array.mem_toList_iff.1 he) hb'
        have h4 := hl0 e.on (by omega) (by omega)
        rw [getD_sw (by omega)] at h4
        simp only [Bool.not_true] at h4
        rw [h3] at h4
        cases h4
    have ho' : l[i]? = some o := by rw [hat, List.getElem?_append_left hil'] at ho; exact ho
    have hfi : i < fs.length := by omega
    have hst := hstep i o fs[i] ho' (List.getElem?_eq_getElem hfi) xs w hb (edgeSat_of _ fun e he hbd f hfe => by
      have hlt := hlex i o ho e he hbd
      rw [List.getElem?_take, if_pos hlt] at hfe
      exact hf _ f hfe (hall e (Array.mem_toList_iff.1 he) hbd))
    have hput : ∀ u, (fill 0 l a0 xs).put o.dst u = fill 0 l a0 (fun j => if j = i then u else xs j) := by
      intro u
      have := fill_put (u := u) (i := i) l 0 a0 xs hn hil' (fun o ho => by obtain ⟨d, hd⟩ := hd o ho; rw [hd]; rfl)
      simp only [Nat.zero_add] at this
      rw [show (l[i]?).bind (·.dst) = o.dst by simp [ho']] at this
      exact this
    have hcs := count_set hsz hil h0
    have hnext : ∀ u w', Below w.heap.size w w' → (fs[i]).at_ u w' → wpAny P .any ops Q fuel (listed.setIfInBounds i true) ((fill 0 l a0 xs).put o.dst u) w' := by
      intro u w' hbw hfu
      rw [hput]
      refine ih _ _ _ (by simpa using hsz) (by omega) ?_ ?_ (hb.trans (hbw.mono hb.size)) fun j f hj hl => ?_
      · intro j o2 hj hlj e he hbd
        by_cases hei : i = e.on
        · rw [← hei]
          have : i < listed.size := by omega
          simp [this]
        rw [getD_set_ne false hei]
        by_cases hij : i = j
        · subst hij
          rw [ho] at hj
          injection hj with hj
          subst hj
          exact hall e (Array.mem_toList_iff.1 he) hbd
        · rw [getD_set_ne false hij] at hlj
          exact hcl j o2 hj hlj e he hbd
      · intro j hj hjl
        rw [getD_set_ne true (fun e => by omega)]
        exact hl0 j hj hjl
      · by_cases hji : j = i
        · subst hji
          rw [if_pos rfl]
          rw [List.getElem?_eq_getElem hfi] at hj
          injection hj with hj
          rw [← hj]
          exact hfu
        · rw [if_neg hji]
          rw [getD_set_ne false (fun e => hji e.symm)] at hl
          exact Fact.keep (hmono f (List.mem_of_getElem? hj)) hbw (hf j f hj hl)
    unfold wpOp
    simp only [ho]
    by_cases hw : Region.wanted o (yielded ops (fill 0 l a0 xs).tmps) = true
    · rw [if_pos hw] at hst ⊢
      exact .inl (wp_of_loc hst hnext)
    · rw [if_neg hw] at hst ⊢
      exact hnext undef w (Below.refl _ _) hst

/-- The rule: a region that draws its order; its last operations come one after the other, behind all others. -/
theorem wp_region_tail {id : Nat} {Q : Exit → Act → World → Prop} {a0 : Act} {w : World} {ops : Array Oper} (l t : List Oper) {ol : Oper} {fr : (Nat → Value) → Act} (hops : ops = (l ++ ol :: t).toArray) (hm : P.follows .mixedOrders = true)
    (hd : dstsOk a0.tmps.size l.toArray = true) (hl : lexOk (l ++ ol :: t).toArray = true) (hcov : coverN l.length (l ++ ol :: t).toArray = true) (hrow : rowOk l.length (l ++ ol :: t).toArray = true) (hfr : ∀ xs, fill 0 l a0 xs = fr xs)
    (h : wpLoc P (l ++ ol :: t).toArray w fr (wpSeq P (l ++ ol :: t).toArray Q (ol :: t)) l []) : (Code.region id ops true).wp P Q a0 w := by
  subst hops
  obtain ⟨fs, hfl, hmono, hstep, hend⟩ := facts_of_wpLoc l [] h
  simp only [dstsOk, Bool.and_eq_true, List.all_eq_true, decide_eq_true_eq] at hd
  refine wp_region_any hm ?_
  have hd2 : ∀ o ∈ l, ∃ d, o.dst = some d ∧ d < a0.tmps.size := fun o ho => by
    have := hd.1 o ho
    cases hod : o.dst with
    | none => rw [hod] at this; simp at this
    | some d => rw [hod] at this; exact ⟨d, rfl, by simpa using this⟩
  have hself : ∃ xs, fill 0 l a0 xs = a0 := by
    refine ⟨fun j => ((l[j]?).bind (·.dst)).elim undef fun d => a0.tmps.getD d undef, ?_⟩
    have : ∀ (l' : List Oper) (k : Nat) (ys : Nat → Value), (∀ o ∈ l', ∃ d, o.dst = some d ∧ d < a0.tmps.size) → (∀ j o, l'[j]? = some o → ys (k + j) = o.dst.elim undef fun d => a0.tmps.getD d undef) → fill k l' a0 ys = a0 := by
      intro l'
      induction l' with
      | nil => intros; rfl
      | cons o l' ih =>
        intro k ys h1 h2
        obtain ⟨d, hod, hdl⟩ := h1 o (by simp)
        have hk := h2 0 o rfl
        simp only [fill]
        have hp : a0.put o.dst (ys k) = a0 := by
          rw [Nat.add_zero] at hk
          rw [hk, hod]
          simp only [Act.put, Option.elim_some]
          have : a0.tmps.setIfInBounds d (a0.tmps.getD d undef) = a0.tmps := by
            apply Array.ext_getElem?
            intro i
            rw [Array.getElem?_setIfInBounds]
            by_cases hi : d = i
            · subst hi
              simp [hdl]
            · rw [if_neg hi]
          rw [this]
        rw [hp]
        exact ih (k + 1) ys (fun o ho => h1 o (by simp [ho])) fun j o hj => by
          have := h2 (j + 1) o (by simpa using hj)
          rwa [show k + (j + 1) = k + 1 + j by omega] at this
    exact this l 0 _ hd2 fun j o hj => by simp [hj]
  obtain ⟨xs, hxs⟩ := hself
  have hB : Below w.heap.size w { w with drawn := w.drawn + 1 } := ⟨rfl, rfl, rfl, Nat.le_refl _, fun _ _ => rfl⟩
  have := loc_any_tail (P := P) (ops := (l ++ ol :: t).toArray) (l := l) (ol := ol) (t := t) (by simp) (w0 := w) (a0 := a0) (Q := Q) (fs := fs) hd.2 (fun o ho => by obtain ⟨d, h, _⟩ := hd2 o ho; exact ⟨d, h⟩)
    (fun j o ho e he hb => by
      have h1 := List.all_eq_true.1 hl j (List.mem_range.2 (Array.getElem?_eq_some_iff.1 ho).1)
      rw [ho] at h1
      have h2 := List.all_eq_true.1 h1 e he
      simpa [hb] using h2)
    hcov hrow hfl hmono
    (fun j o f ho hf xs w' hb he => by
      have := hstep j o f ho hf xs w' hb (by simpa using he)
      rw [← hfr] at this
      exact this)
    (fun xs w' hb hf => by rw [hfr]; exact hend xs w' hb (by simpa using hf))
    (l ++ ol :: t).toArray.size (Array.replicate (l ++ ol :: t).toArray.size false) xs _ (by simp) (by
      rw [List.countP_eq_length.2]
      · simp
      · intro j hj
        have : j < l.length + (t.length + 1) := by simpa using hj
        simp [this]) (fun j o hj hl => by
      exfalso
      have : j < l.length + (t.length + 1) := by simpa using (Array.getElem?_eq_some_iff.1 hj).1
      simp [this] at hl) (fun j _ hj => by
      have : j < l.length + (t.length + 1) := by simpa using hj
      simp [this]) hB (fun j f hj hl => by
      exfalso
      have : j < l.length := by rw [← hfl]; exact (List.getElem?_eq_some_iff.1 hj).1
      have : j < l.length + (t.length + 1) := by omega
      simp [this] at hl)
  rw [hxs] at this
  exact this
end
end Go.Proofs.YtgabpbnndikheaaDoor
