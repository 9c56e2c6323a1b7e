import Derived.Test.YtgabpbnndikheaaDoorRg
/-! A region that draws its order and whose last operation waits for all others (a store of what was made). -/
namespace Go.Proofs.YtgabpbnndikheaaDoor
open Go.RowKit
section
variable {P : Program}

def closed (ops : Array Oper) (listed : Array Bool) : Prop := ∀ (j : Nat) (o : Oper), ops[j]? = some o → listed.getD j false = true → ∀ e ∈ o.after.toList, Region.binds .any e = true → listed.getD e.on false = true
/-- Each operation but the last one is waited for by a later one. -/
def coverOk (ops : Array Oper) : Bool := (List.range (ops.size - 1)).all fun j => (List.range ops.size).any fun k => decide (j < k) && (match ops[k]? with | some o => o.after.toList.any fun e => Region.binds .any e && (e.on == j) | none => false)
theorem all_of_last {ops : Array Oper} {listed : Array Bool} {n : Nat} (hn : ops.size = n + 1) (hc : coverOk ops = true) (hcl : closed ops listed) (hr : n ∈ Region.ready .any ops listed) : ∀ j, j < n → listed.getD j false = true := by
  have key : ∀ d j, j + d = n → j < n → listed.getD j false = true := by
    intro d
    induction d using Nat.strongRecOn with
    | _ d ih =>
      intro j hjd hj
      have h1 := List.all_eq_true.1 hc j (List.mem_range.2 (by omega))
      obtain ⟨k, hk, h2⟩ := List.any_eq_true.1 h1
      rw [List.mem_range] at hk
      simp only [Bool.and_eq_true, decide_eq_true_eq] at h2
      obtain ⟨hjk, h2⟩ := h2
      rw [Array.getElem?_eq_getElem hk] at h2
      simp only [List.any_eq_true, Bool.and_eq_true, beq_iff_eq] at h2
      obtain ⟨e, he, hb, hon⟩ := h2
      by_cases hkn : k = n
      · subst hkn
        rw [mem_ready] at hr
        obtain ⟨_, o, ho, hall⟩ := hr
        rw [Array.getElem?_eq_getElem hk] at ho
        injection ho with ho
        subst ho
        have := hall e (Array.mem_toList_iff.1 he) hb
        rwa [hon] at this
      · have hl := ih (n - k) (by omega) k (by omega) (by omega)
        have := hcl k _ (Array.getElem?_eq_getElem hk) hl e he hb
        rwa [hon] at this
  intro j hj
  exact key (n - j) j (by omega) hj
theorem ready_nil {ops : Array Oper} {listed : Array Bool} (hsz : listed.size = ops.size) (h : ∀ j, j < ops.size → listed.getD j false = true) : Region.ready .any ops listed = [] := by
  cases hr : Region.ready .any ops listed with
  | nil => rfl
  | cons j l =>
    exfalso
    have hm : j ∈ Region.ready .any ops listed := by rw [hr]; simp
    rw [mem_ready] at hm
    obtain ⟨h0, o, ho, _⟩ := hm
    have hj : j < ops.size := (Array.getElem?_eq_some_iff.1 ho).1
    have := h j hj
    have hjl : j < listed.size := by omega
    simp only [Array.getD_eq_getD_getElem?, Array.getElem?_eq_getElem hjl, Option.getD_some] at this h0
    rw [this] at h0
    cases h0
theorem wpAny_done {ops : Array Oper} {Q : Exit → Act → World → Prop} {fuel : Nat} {listed : Array Bool} {a : Act} {w : World} (hr : Region.ready .any ops listed = []) (h : Q .normal a w) : wpAny P .any ops Q fuel listed a w := by
  cases fuel with
  | zero => exact ⟨hr, h⟩
  | succ n => exact ⟨fun _ => h, fun i hi => by rw [hr] at hi; cases hi⟩

theorem loc_any_last {ops : Array Oper} {l : List Oper} {ol : Oper} (hops : ops.toList = l ++ [ol]) {w0 : World} {a0 : Act} {Q : Exit → Act → World → Prop} {fs : List Fact} (hn : (l.map (·.dst)).Nodup) (hd : ∀ o ∈ l, ∃ d, o.dst = some d)
    (hlex : ∀ (j : Nat) (o : Oper), ops[j]? = some o → ∀ e ∈ o.after.toList, Region.binds .any e = true → e.on < j) (hcov : coverOk ops = true) (hfl : fs.length = l.length) (hmono : ∀ f ∈ fs, f.mono)
    (hstep : ∀ (j : Nat) (o : Oper) (f : Fact), l[j]? = some o → fs[j]? = some f → ∀ xs w, Below w0.heap.size w0 w → edgeSat (fs.take j) xs w o.after.toList → if Region.wanted o (yielded ops (fill 0 l a0 xs).tmps) then locRun P o (fill 0 l a0 xs) w f else f.at_ undef w)
    (hend : ∀ xs w, Below w0.heap.size w0 w → factsAll xs w 0 fs → if Region.wanted ol (yielded ops (fill 0 l a0 xs).tmps) then ol.wp P (fill 0 l a0 xs) w (Q .normal) Q else Q .normal ((fill 0 l a0 xs).put ol.dst undef) w) :
    ∀ (fuel : Nat) (listed : Array Bool) (xs : Nat → Value) (w : World), listed.size = ops.size → (List.range ops.size).countP (fun j => listed.getD j true == false) = fuel → closed ops listed → listed.getD l.length false = false → Below w0.heap.size w0 w →
      (∀ (j : Nat) (f : Fact), fs[j]? = some f → listed.getD j false = true → f.at_ (xs j) w) → wpAny P .any ops Q fuel listed (fill 0 l a0 xs) w := by
  have hsize : ops.size = l.length + 1 := by rw [← Array.length_toList, hops]; simp
  have hat : ∀ j, ops[j]? = (l ++ [ol])[j]? := fun j => by rw [← hops, Array.getElem?_toList]
  have hlastAt : ops[l.length]? = some ol := by rw [hat]; simp
  intro fuel
  induction fuel with
  | zero =>
    intro listed xs w hsz hc hcl hl0 hb hf
    exfalso
    rw [List.countP_eq_zero] at hc
    refine hc l.length (List.mem_range.2 (by omega)) ?_
    have hjl : l.length < listed.size := by omega
    simp only [Array.getD_eq_getD_getElem?, Array.getElem?_eq_getElem hjl, Option.getD_some] at hl0 ⊢
    rw [hl0]; rfl
  | succ fuel ih =>
    intro listed xs w hsz hc hcl hl0 hb hf
    refine ⟨fun hr => ?_, fun i hi => ?_⟩
    · exfalso
      have hall : ∀ j, j < ops.size → listed.getD j false = true := by
        intro j
        induction j using Nat.strongRecOn with
        | _ j ihj =>
          intro hj
          cases hcj : listed.getD j false with
          | true => rfl
          | false =>
            exfalso
            have hmem : j ∈ Region.ready .any ops listed := by
              rw [mem_ready]
              refine ⟨?_, ops[j], Array.getElem?_eq_getElem hj, fun e he hbd => ?_⟩
              · have hjl : j < listed.size := by omega
                simp only [Array.getD_eq_getD_getElem?, Array.getElem?_eq_getElem hjl, Option.getD_some] at hcj ⊢
                exact hcj
              · have := hlex j _ (Array.getElem?_eq_getElem hj) e (Array.mem_toList_iff.2 he) hbd
                exact ihj _ this (by omega)
            rw [hr] at hmem
            cases hmem
      rw [hall _ (by omega)] at hl0
      cases hl0
    have hi' := hi
    rw [mem_ready] at hi'
    obtain ⟨h0, o, ho, hall⟩ := hi'
    have hil : i < ops.size := (Array.getElem?_eq_some_iff.1 ho).1
    by_cases hin : i = l.length
    · subst hin
      rw [hlastAt] at ho
      injection ho with ho
      subst ho
      have hothers := all_of_last hsize hcov hcl hi
      have hfacts : factsAll xs w 0 fs := factsAll_of fs 0 fun j f hj => by
        rw [Nat.zero_add]
        have hjl : j < l.length := by rw [← hfl]; exact (List.getElem?_eq_some_iff.1 hj).1
        exact hf j f hj (hothers j hjl)
      have he := hend xs w hb hfacts
      have hr' : Region.ready .any ops (listed.setIfInBounds l.length true) = [] := ready_nil (by simpa using hsz) fun j hj => by
        by_cases hjn : l.length = j
        · subst hjn
          have : l.length < listed.size := by omega
          simp [this]
        · rw [getD_set_ne false hjn]
          exact hothers j (by omega)
      unfold wpOp
      simp only [hlastAt]
      split
      · rename_i hw
        rw [if_pos hw] at he
        exact .inl (Oper.wp_mono (fun a w' h => wpAny_done hr' h) he)
      · rename_i hw
        rw [if_neg hw] at he
        exact wpAny_done hr' he
    have hil' : i < l.length := by omega
    have ho' : l[i]? = some o := by rw [hat, List.getElem?_append_left hil'] at ho; exact ho
    have hfi : i < fs.length := by omega
    have hst := hstep i o fs[i] ho' (List.getElem?_eq_getElem hfi) xs w hb (edgeSat_of _ fun e he hbd f hfe => by
      have hlt := hlex i o ho e he hbd
      rw [List.getElem?_take, if_pos hlt] at hfe
      exact hf _ f hfe (hall e (Array.mem_toList_iff.1 he) hbd))
    have hput : ∀ u, (fill 0 l a0 xs).put o.dst u = fill 0 l a0 (fun j => if j = i then u else xs j) := by
      intro u
      have := fill_put (u := u) (i := i) l 0 a0 xs hn hil' (fun o ho => by obtain ⟨d, hd⟩ := hd o ho; rw [hd]; rfl)
      simp only [Nat.zero_add] at this
      rw [show (l[i]?).bind (·.dst) = o.dst by simp [ho']] at this
      exact this
    have hnext : ∀ u w', Below w.heap.size w w' → (fs[i]).at_ u w' → wpAny P .any ops Q fuel (listed.setIfInBounds i true) ((fill 0 l a0 xs).put o.dst u) w' := by
      intro u w' hbw hfu
      rw [hput]
      refine ih _ _ _ (by simpa using hsz) ?_ ?_ ?_ (hb.trans (hbw.mono hb.size)) fun j f hj hl => ?_
      · have hcount : (List.range ops.size).countP (fun j => listed.getD j true == false) = (List.range ops.size).countP (fun j => (listed.setIfInBounds i true).getD j true == false) + 1 := by
          have hnd : (List.range ops.size).Nodup := List.nodup_range
          have hmem : i ∈ List.range ops.size := List.mem_range.2 hil
          generalize List.range ops.size = l at hnd hmem
          clear hc
          induction l with
          | nil => cases hmem
          | cons x l ihl =>
            obtain ⟨hx, hnd⟩ := List.nodup_cons.1 hnd
            by_cases hxi : x = i
            · subst hxi
              have e2 : (listed.setIfInBounds x true).getD x true = true := by
                have : x < listed.size := by omega
                simp [this]
              rw [List.countP_cons, List.countP_cons, h0, e2]
              have : l.countP (fun j => listed.getD j true == false) = l.countP (fun j => (listed.setIfInBounds x true).getD j true == false) := by
                refine List.countP_congr fun y hy => ?_
                have hne : x ≠ y := fun e => hx (e ▸ hy)
                rw [getD_set_ne true hne]
              rw [this]
              simp
            · have hm : i ∈ l := by
                rcases List.mem_cons.1 hmem with h | h
                · exact absurd h.symm hxi
                · exact h
              rw [List.countP_cons, List.countP_cons, getD_set_ne true (fun e => hxi e.symm), ihl hnd hm]
              omega
        omega
      · intro j o2 hj hlj e he hbd
        by_cases hei : i = e.on
        · rw [← hei]
          have : i < listed.size := by omega
          simp [this]
        rw [getD_set_ne false hei]
        by_cases hij : i = j
        · subst hij
          rw [ho] at hj
          injection hj with hj
          subst hj
          exact hall e (Array.mem_toList_iff.1 he) hbd
        · rw [getD_set_ne false hij] at hlj
          exact hcl j o2 hj hlj e he hbd
      · rw [getD_set_ne false (fun e => by omega)]
        exact hl0
      · by_cases hji : j = i
        · subst hji
          rw [if_pos rfl]
          rw [List.getElem?_eq_getElem hfi] at hj
          injection hj with hj
          rw [← hj]
          exact hfu
        · rw [if_neg hji]
          rw [getD_set_ne false (fun e => hji e.symm)] at hl
          exact Fact.keep (hmono f (List.mem_of_getElem? hj)) hbw (hf j f hj hl)
    unfold wpOp
    simp only [ho]
    by_cases hw : Region.wanted o (yielded ops (fill 0 l a0 xs).tmps) = true
    · rw [if_pos hw] at hst ⊢
      exact .inl (wp_of_loc hst hnext)
    · rw [if_neg hw] at hst ⊢
      exact hnext undef w (Below.refl _ _) hst

/-- The rule: a region that draws its order; its last operation waits for all others. -/
theorem wp_region_last {id : Nat} {Q : Exit → Act → World → Prop} {a0 : Act} {w : World} {l : List Oper} {ol : Oper} {fr : (Nat → Value) → Act} (hm : P.follows .mixedOrders = true)
    (hd : dstsOk a0.tmps.size l.toArray = true) (hl : lexOk (l ++ [ol]).toArray = true) (hcov : coverOk (l ++ [ol]).toArray = true) (hfr : ∀ xs, fill 0 l a0 xs = fr xs)
    (h : wpLoc P (l ++ [ol]).toArray w fr (fun a w' => if Region.wanted ol (yielded (l ++ [ol]).toArray a.tmps) then ol.wp P a w' (Q .normal) Q else Q .normal (a.put ol.dst undef) w') l []) : (Code.region id (l ++ [ol]).toArray true).wp P Q a0 w := by
  obtain ⟨fs, hfl, hmono, hstep, hend⟩ := facts_of_wpLoc l [] h
  simp only [dstsOk, Bool.and_eq_true, List.all_eq_true, decide_eq_true_eq] at hd
  refine wp_region_any hm ?_
  have hd2 : ∀ o ∈ l, ∃ d, o.dst = some d ∧ d < a0.tmps.size := fun o ho => by
    have := hd.1 o ho
    cases hod : o.dst with
    | none => rw [hod] at this; simp at this
    | some d => rw [hod] at this; exact ⟨d, rfl, by simpa using this⟩
  have hself : ∃ xs, fill 0 l a0 xs = a0 := by
    refine ⟨fun j => ((l[j]?).bind (·.dst)).elim undef fun d => a0.tmps.getD d undef, ?_⟩
    have : ∀ (l' : List Oper) (k : Nat) (ys : Nat → Value), (∀ o ∈ l', ∃ d, o.dst = some d ∧ d < a0.tmps.size) → (∀ j o, l'[j]? = some o → ys (k + j) = o.dst.elim undef fun d => a0.tmps.getD d undef) → fill k l' a0 ys = a0 := by
      intro l'
      induction l' with
      | nil => intros; rfl
      | cons o l' ih =>
        intro k ys h1 h2
        obtain ⟨d, hod, hdl⟩ := h1 o (by simp)
        have hk := h2 0 o rfl
        simp only [fill]
        have hp : a0.put o.dst (ys k) = a0 := by
          rw [Nat.add_zero] at hk
          rw [hk, hod]
          simp only [Act.put, Option.elim_some]
          have : a0.tmps.setIfInBounds d (a0.tmps.getD d undef) = a0.tmps := by
            apply Array.ext_getElem?
            intro i
            rw [Array.getElem?_setIfInBounds]
            by_cases hi : d = i
            · subst hi
              simp [hdl]
            · rw [if_neg hi]
          rw [this]
        rw [hp]
        exact ih (k + 1) ys (fun o ho => h1 o (by simp [ho])) fun j o hj => by
          have := h2 (j + 1) o (by simpa using hj)
          rwa [show k + (j + 1) = k + 1 + j by omega] at this
    exact this l 0 _ hd2 fun j o hj => by simp [hj]
  obtain ⟨xs, hxs⟩ := hself
  have hB : Below w.heap.size w { w with drawn := w.drawn + 1 } := ⟨rfl, rfl, rfl, Nat.le_refl _, fun _ _ => rfl⟩
  have := loc_any_last (P := P) (ops := (l ++ [ol]).toArray) (l := l) (ol := ol) (by simp) (w0 := w) (a0 := a0) (Q := Q) (fs := fs) hd.2 (fun o ho => by obtain ⟨d, h, _⟩ := hd2 o ho; exact ⟨d, h⟩)
    (fun j o ho e he hb => by
      have h1 := List.all_eq_true.1 hl j (List.mem_range.2 (Array.getElem?_eq_some_iff.1 ho).1)
      rw [ho] at h1
      have h2 := List.all_eq_true.1 h1 e he
      simpa [hb] using h2)
    hcov hfl hmono
    (fun j o f ho hf xs w' hb he => by
      have := hstep j o f ho hf xs w' hb (by simpa using he)
      rw [← hfr] at this
      exact this)
    (fun xs w' hb hf => by rw [hfr]; exact hend xs w' hb (by simpa using hf))
    (l ++ [ol]).toArray.size (Array.replicate (l ++ [ol]).toArray.size false) xs _ (by simp) (by
      rw [List.countP_eq_length.2]
      · simp
      · intro j hj
        have : j < l.length + 1 := by simpa using hj
        simp [this]) (fun j o hj hl => by
      exfalso
      have : j < l.length + 1 := by simpa using (Array.getElem?_eq_some_iff.1 hj).1
      simp [this] at hl) (by simp) hB (fun j f hj hl => by
      exfalso
      have : j < l.length := by rw [← hfl]; exact (List.getElem?_eq_some_iff.1 hj).1
      have : j < l.length + 1 := by omega
      simp [this] at hl)
  rw [hxs] at this
  exact this
theorem wp_region_last' {id : Nat} {Q : Exit → Act → World → Prop} {a0 : Act} {w : World} {ops : Array Oper} (l : List Oper) {ol : Oper} {fr : (Nat → Value) → Act} (hops : ops = (l ++ [ol]).toArray) (hm : P.follows .mixedOrders = true)
    (hd : dstsOk a0.tmps.size l.toArray = true) (hl : lexOk (l ++ [ol]).toArray = true) (hcov : coverOk (l ++ [ol]).toArray = true) (hfr : ∀ xs, fill 0 l a0 xs = fr xs)
    (h : wpLoc P (l ++ [ol]).toArray w fr (fun a w' => if Region.wanted ol (yielded (l ++ [ol]).toArray a.tmps) then ol.wp P a w' (Q .normal) Q else Q .normal (a.put ol.dst undef) w') l []) : (Code.region id ops true).wp P Q a0 w := by
  subst hops
  exact wp_region_last hm hd hl hcov hfr h
end
end Go.Proofs.YtgabpbnndikheaaDoor
