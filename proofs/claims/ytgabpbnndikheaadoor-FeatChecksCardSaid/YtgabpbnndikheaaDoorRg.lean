import Derived.Deep.Quiet
import Derived.Below
/-! A region that draws its order: each operation is told by a fact of its own, in every world behind the first one; any order serves. -/
namespace Go.Proofs.YtgabpbnndikheaaDoor
open Go.RowKit

/-- What is known of an operation's value: the value itself, or what is true of it in this world and in all later ones. -/
inductive Fact where
  | det (v : Value)
  | fresh (f : Value → World → Prop)
def Fact.at_ : Fact → Value → World → Prop
  | .det v, u, _ => u = v
  | .fresh f, u, w => f u w
def Fact.mono : Fact → Prop
  | .det _ => True
  | .fresh f => ∀ u w w', Below w.heap.size w w' → f u w → f u w'
theorem Fact.keep {f : Fact} (hm : f.mono) {u : Value} {w w' : World} (hb : Below w.heap.size w w') (h : f.at_ u w) : f.at_ u w' := by
  cases f with
  | det v => exact h
  | fresh f => exact hm u w w' hb h

section
variable {P : Program}

def locUpon (P : Program) (w : World) (f : Fact) : Result Next → Prop
  | .ok (.value u) w' => Below w.heap.size w w' ∧ f.at_ u w'
  | .ok .skip w' => Below w.heap.size w w' ∧ f.at_ undef w'
  | .ok (.enter g args) w' => Below w.heap.size w w' ∧ Calls P g args w' (fun e w'' => ∃ u, e = .returned u ∧ Below w.heap.size w w'' ∧ f.at_ u w'')
  | _ => False
def locRun (P : Program) (o : Oper) (a : Act) (w : World) (f : Fact) : Prop := locUpon P w f ((execOp a.eval o).run P w)

theorem wp_of_loc {o : Oper} {a : Act} {w : World} {f : Fact} {K : Act → World → Prop} {Q : Exit → Act → World → Prop} (h : locRun P o a w f)
    (hK : ∀ u w', Below w.heap.size w w' → f.at_ u w' → K (a.put o.dst u) w') : o.wp P a w K Q := by
  unfold locRun at h
  unfold Oper.wp
  generalize (execOp a.eval o).run P w = r at *
  cases r with
  | ok n w' =>
    cases n <;> simp only [locUpon] at h <;> simp only [Oper.upon]
    case value u => exact hK _ _ h.1 h.2
    case skip => exact hK _ _ h.1 h.2
    case enter g args =>
      exact h.2.mono fun e w'' ⟨u, he, hb, hf⟩ => by subst he; exact hK _ _ hb hf
  | halt x w' => simp only [locUpon] at h

theorem at_det (v : Value) (w : World) : (Fact.det v).at_ v w := rfl
theorem loc_val {w : World} {v : Value} : locUpon P w (.det v) (.ok (.value v) w) := ⟨Below.refl _ _, rfl⟩
theorem loc_call {g : FuncId} {args : Array Value} {w : World} {v : Value} (h : Calls P g args w fun e w' => e = .returned v ∧ Below w.heap.size w w') : locUpon P w (.det v) (.ok (.enter g args) w) :=
  ⟨Below.refl _ _, h.mono fun _ _ ⟨he, hb⟩ => ⟨v, he, hb, rfl⟩⟩
theorem loc_call_same {g : FuncId} {args : Array Value} {w : World} {v : Value} (h : Calls P g args w fun e w' => e = .returned v ∧ w = w') : locUpon P w (.det v) (.ok (.enter g args) w) :=
  ⟨Below.refl _ _, h.mono fun _ w' ⟨he, hb⟩ => by subst hb; exact ⟨v, he, Below.refl _ _, rfl⟩⟩
theorem loc_call_fresh {g : FuncId} {args : Array Value} {w : World} {f : Value → World → Prop} (h : Calls P g args w fun e w' => ∃ v, e = .returned v ∧ f v w' ∧ Below w.heap.size w w') : locUpon P w (.fresh f) (.ok (.enter g args) w) :=
  ⟨Below.refl _ _, h.mono fun _ _ ⟨v, he, hf, hb⟩ => ⟨v, he, hb, hf⟩⟩

/-- The frame with the region's values put in. -/
def fill : Nat → List Oper → Act → (Nat → Value) → Act
  | _, [], a, _ => a
  | k, o :: l, a, xs => fill (k + 1) l (a.put o.dst (xs k)) xs

def edgeSat (facts : List Fact) (xs : Nat → Value) (w : World) : List Edge → Prop
  | [] => True
  | e :: es => (match Region.binds .any e, facts[e.on]? with
      | true, some f => f.at_ (xs e.on) w
      | _, _ => True) ∧ edgeSat facts xs w es
def factsAll (xs : Nat → Value) (w : World) : Nat → List Fact → Prop
  | _, [] => True
  | k, f :: fs => f.at_ (xs k) w ∧ factsAll xs w (k + 1) fs

/-- One operation after the other, each in whatever world and frame in which what it waits for has come up. -/
def wpLoc (P : Program) (ops : Array Oper) (w0 : World) (fr : (Nat → Value) → Act) (Q : Act → World → Prop) : List Oper → List Fact → Prop
  | [], facts => ∀ xs w, Below w0.heap.size w0 w → factsAll xs w 0 facts → Q (fr xs) w
  | o :: rest, facts => ∃ f : Fact, f.mono ∧
      (∀ xs w, Below w0.heap.size w0 w → edgeSat facts xs w o.after.toList → if Region.wanted o (yielded ops (fr xs).tmps) then locRun P o (fr xs) w f else f.at_ undef w) ∧
      wpLoc P ops w0 fr Q rest (facts ++ [f])

theorem wpLoc_nil {ops : Array Oper} {w0 : World} {fr : (Nat → Value) → Act} {Q : Act → World → Prop} {facts : List Fact} (h : ∀ xs w, Below w0.heap.size w0 w → factsAll xs w 0 facts → Q (fr xs) w) : wpLoc P ops w0 fr Q [] facts := h
theorem wpLoc_det {ops : Array Oper} {w0 : World} {fr : (Nat → Value) → Act} {Q : Act → World → Prop} {facts : List Fact} {o : Oper} {rest : List Oper} (v : Value)
    (h : ∀ xs w, Below w0.heap.size w0 w → edgeSat facts xs w o.after.toList → if Region.wanted o (yielded ops (fr xs).tmps) then locRun P o (fr xs) w (.det v) else v = undef) (hr : wpLoc P ops w0 fr Q rest (facts ++ [.det v])) : wpLoc P ops w0 fr Q (o :: rest) facts :=
  ⟨.det v, trivial, fun xs w hb he => by have := h xs w hb he; split at this <;> simp_all [Fact.at_], hr⟩
theorem wpLoc_fresh {ops : Array Oper} {w0 : World} {fr : (Nat → Value) → Act} {Q : Act → World → Prop} {facts : List Fact} {o : Oper} {rest : List Oper} (f : Value → World → Prop)
    (hm : ∀ u w w', Below w.heap.size w w' → f u w → f u w')
    (h : ∀ xs w, Below w0.heap.size w0 w → edgeSat facts xs w o.after.toList → if Region.wanted o (yielded ops (fr xs).tmps) then locRun P o (fr xs) w (.fresh f) else f undef w) (hr : wpLoc P ops w0 fr Q rest (facts ++ [.fresh f])) : wpLoc P ops w0 fr Q (o :: rest) facts :=
  ⟨.fresh f, hm, h, hr⟩

/-- The facts that the walk lays, and what each operation owes. -/
theorem facts_of_wpLoc {ops : Array Oper} {w0 : World} {fr : (Nat → Value) → Act} {Q : Act → World → Prop} : ∀ (l : List Oper) (facts : List Fact), wpLoc P ops w0 fr Q l facts →
    ∃ fs : List Fact, fs.length = l.length ∧ (∀ f ∈ fs, f.mono) ∧
      (∀ j o f, l[j]? = some o → fs[j]? = some f → ∀ xs w, Below w0.heap.size w0 w → edgeSat (facts ++ fs.take j) xs w o.after.toList → if Region.wanted o (yielded ops (fr xs).tmps) then locRun P o (fr xs) w f else f.at_ undef w) ∧
      (∀ xs w, Below w0.heap.size w0 w → factsAll xs w 0 (facts ++ fs) → Q (fr xs) w)
  | [], facts, h => ⟨[], rfl, by simp, fun j o f hj => by simp at hj, by simpa [wpLoc] using h⟩
  | o :: rest, facts, ⟨f, hm, hs, hr⟩ => by
    obtain ⟨fs, hl, hms, hss, hq⟩ := facts_of_wpLoc rest _ hr
    refine ⟨f :: fs, by simp [hl], by simpa using ⟨hm, hms⟩, fun j o' f' hj hf => ?_, by simpa using hq⟩
    cases j with
    | zero =>
      simp at hj hf
      subst hj hf
      simpa using hs
    | succ j =>
      simp at hj hf
      simpa using hss j o' f' hj hf

theorem factsAll_of {xs : Nat → Value} {w : World} : ∀ (fs : List Fact) (k : Nat), (∀ (j : Nat) (f : Fact), fs[j]? = some f → f.at_ (xs (k + j)) w) → factsAll xs w k fs
  | [], _, _ => trivial
  | f :: fs, k, h => ⟨by simpa using h 0 f rfl, factsAll_of fs (k + 1) fun j g hj => by have := h (j + 1) g (by simpa using hj); rwa [show k + (j + 1) = k + 1 + j by omega] at this⟩
theorem edgeSat_of {facts : List Fact} {xs : Nat → Value} {w : World} : ∀ (es : List Edge), (∀ e ∈ es, Region.binds .any e = true → ∀ f, facts[e.on]? = some f → f.at_ (xs e.on) w) → edgeSat facts xs w es
  | [], _ => trivial
  | e :: es, h => ⟨by
      cases hb : Region.binds .any e with
      | false => trivial
      | true =>
        cases hf : facts[e.on]? with
        | none => trivial
        | some f => exact h e (by simp) hb f hf, edgeSat_of es fun e' he => h e' (by simp [he])⟩

def dstsOk (n : Nat) (ops : Array Oper) : Bool :=
  ops.toList.all (fun o => match o.dst with | some d => decide (d < n) | none => false) && decide ((ops.toList.map (·.dst)).Nodup)
def lexOk (ops : Array Oper) : Bool := (List.range ops.size).all fun j => match ops[j]? with
  | some o => o.after.toList.all fun e => !Region.binds .any e || decide (e.on < j)
  | none => true

theorem put_put {a : Act} {d : Option Tmp} {u v : Value} : (a.put d u).put d v = a.put d v := by
  cases d with
  | none => rfl
  | some d => simp [Act.put]
theorem fill_put {u : Value} {i : Nat} : ∀ (l : List Oper) (k : Nat) (a : Act) (xs : Nat → Value), (l.map (·.dst)).Nodup → i < l.length → (∀ o ∈ l, o.dst.isSome) →
    (fill k l a xs).put ((l[i]?).bind (·.dst)) u = fill k l a (fun j => if j = k + i then u else xs j)
  | [], _, _, _, _, h, _ => absurd h (by simp)
  | o :: l, k, a, xs, hn, hi, hs => by
    have hn' := List.nodup_cons.1 hn
    have hne : ∀ (l : List Oper) (k : Nat) (b : Act) (ys : Nat → Value) (d : Option Tmp) (v : Value), d.isSome → d ∉ l.map (·.dst) → (fill k l b ys).put d v = fill k l (b.put d v) ys := by
      intro l
      induction l with
      | nil => intros; rfl
      | cons o' l ih =>
        intro k b ys d v hd hm
        simp only [List.map_cons, List.mem_cons, not_or] at hm
        simp only [fill]
        rw [ih (k + 1) _ ys d v hd hm.2]
        congr 1
        cases ho : o'.dst with
        | none => simp [Act.put]
        | some d' =>
          cases d with
          | none => simp at hd
          | some d => exact Act.put_comm b _ _ (fun d1 h1 h2 => hm.1 (by rw [ho, h2, h1]))
    have hsame : ∀ (l : List Oper) (k m : Nat) (b : Act) (ys zs : Nat → Value), (∀ j, k ≤ j → ys j = zs j) → fill k l b ys = fill k l b zs := by
      intro l
      induction l with
      | nil => intros; rfl
      | cons o' l ih =>
        intro k m b ys zs h
        simp only [fill]
        rw [h k (Nat.le_refl _)]
        exact ih (k + 1) m _ _ _ fun j hj => h j (by omega)
    cases i with
    | zero =>
      simp only [List.getElem?_cons_zero, Option.bind_some, fill, Nat.add_zero, if_true]
      rw [hne l (k + 1) _ xs o.dst u (hs o (by simp)) hn'.1, put_put]
      exact hsame l (k + 1) 0 _ _ _ fun j hj => by rw [if_neg (by omega)]
    | succ i =>
      simp only [List.getElem?_cons_succ, fill]
      rw [fill_put l (k + 1) _ xs hn'.2 (by simpa using hi) (fun o' ho' => hs o' (by simp [ho'])), if_neg (by omega)]
      exact hsame l (k + 1) 0 _ _ _ fun j hj => by
        by_cases h : j = k + 1 + i
        · rw [if_pos h, if_pos (by omega)]
        · rw [if_neg h, if_neg (by omega)]

/-- The frame as it stands: what has not come up yet still holds what it held. -/
theorem loc_any {ops : Array Oper} {w0 : World} {a0 : Act} {Q : Exit → Act → World → Prop} {fs : List Fact} (hn : (ops.toList.map (·.dst)).Nodup) (hd : ∀ o ∈ ops.toList, ∃ d, o.dst = some d)
    (hlex : ∀ (j : Nat) (o : Oper), ops[j]? = some o → ∀ e ∈ o.after.toList, Region.binds .any e = true → e.on < j) (hfl : fs.length = ops.toList.length) (hmono : ∀ f ∈ fs, f.mono)
    (hstep : ∀ (j : Nat) (o : Oper) (f : Fact), ops[j]? = some o → fs[j]? = some f → ∀ xs w, Below w0.heap.size w0 w → edgeSat (fs.take j) xs w o.after.toList → if Region.wanted o (yielded ops (fill 0 ops.toList a0 xs).tmps) then locRun P o (fill 0 ops.toList a0 xs) w f else f.at_ undef w)
    (hend : ∀ xs w, Below w0.heap.size w0 w → factsAll xs w 0 fs → Q .normal (fill 0 ops.toList a0 xs) w) :
    ∀ (fuel : Nat) (listed : Array Bool) (xs : Nat → Value) (w : World), listed.size = ops.size → (List.range ops.size).countP (fun j => listed.getD j true == false) = fuel → Below w0.heap.size w0 w →
      (∀ (j : Nat) (f : Fact), fs[j]? = some f → listed.getD j false = true → f.at_ (xs j) w) → wpAny P .any ops Q fuel listed (fill 0 ops.toList a0 xs) w := by
  have hdone : ∀ (listed : Array Bool) (xs : Nat → Value) (w : World), listed.size = ops.size → Region.ready .any ops listed = [] → Below w0.heap.size w0 w →
      (∀ (j : Nat) (f : Fact), fs[j]? = some f → listed.getD j false = true → f.at_ (xs j) w) → Q .normal (fill 0 ops.toList a0 xs) w := by
    intro listed xs w hsz hr hb hf
    have hall : ∀ j, j < ops.size → listed.getD j false = true := by
      intro j
      induction j using Nat.strongRecOn with
      | _ j ih =>
        intro hj
        cases hc : listed.getD j false with
        | true => rfl
        | false =>
          exfalso
          have hmem : j ∈ Region.ready .any ops listed := by
            rw [mem_ready]
            refine ⟨?_, ops[j], Array.getElem?_eq_getElem hj, fun e he hbd => ?_⟩
            · have hjl : j < listed.size := by omega
              simp only [Array.getD_eq_getD_getElem?, Array.getElem?_eq_getElem hjl, Option.getD_some] at hc ⊢
              exact hc
            · have := hlex j _ (Array.getElem?_eq_getElem hj) e (Array.mem_toList_iff.2 he) hbd
              exact ih _ this (by omega)
          rw [hr] at hmem
          cases hmem
    refine hend xs w hb (factsAll_of fs 0 fun j f hj => ?_)
    rw [Nat.zero_add]
    have hjl : j < ops.size := by
      have := (List.getElem?_eq_some_iff.1 hj).1
      rw [hfl] at this
      simpa using this
    exact hf j f hj (hall j hjl)
  have hready : ∀ (listed : Array Bool), (List.range ops.size).countP (fun j => listed.getD j true == false) = 0 → Region.ready .any ops listed = [] := by
    intro listed h
    rw [List.countP_eq_zero] at h
    cases hr : Region.ready .any ops listed with
    | nil => rfl
    | cons j l =>
      exfalso
      have hm : j ∈ Region.ready .any ops listed := by rw [hr]; simp
      rw [mem_ready] at hm
      obtain ⟨h0, o, ho, _⟩ := hm
      exact h j (List.mem_range.2 (Array.getElem?_eq_some_iff.1 ho).1) (by rw [h0]; rfl)
  intro fuel
  induction fuel with
  | zero => exact fun listed xs w hsz hc hb hf => ⟨hready listed hc, hdone listed xs w hsz (hready listed hc) hb hf⟩
  | succ fuel ih =>
    intro listed xs w hsz hc hb hf
    refine ⟨fun hr => hdone listed xs w hsz hr hb hf, fun i hi => ?_⟩
    have hi' := hi
    rw [mem_ready] at hi'
    obtain ⟨h0, o, ho, hall⟩ := hi'
    have hil : i < ops.size := (Array.getElem?_eq_some_iff.1 ho).1
    have hfi : i < fs.length := by rw [hfl]; simpa using hil
    have hst := hstep i o fs[i] ho (List.getElem?_eq_getElem hfi) xs w hb (edgeSat_of _ fun e he hbd f hfe => by
      have hlt := hlex i o ho e he hbd
      rw [List.getElem?_take, if_pos hlt] at hfe
      exact hf _ f hfe (hall e (Array.mem_toList_iff.1 he) hbd))
    have hput : ∀ u, (fill 0 ops.toList a0 xs).put o.dst u = fill 0 ops.toList a0 (fun j => if j = i then u else xs j) := by
      intro u
      have := fill_put (u := u) (i := i) ops.toList 0 a0 xs hn (by simpa using hil) (fun o ho => by obtain ⟨d, hd⟩ := hd o ho; rw [hd]; rfl)
      simp only [Nat.zero_add] at this
      rw [show (ops.toList[i]?).bind (·.dst) = o.dst by simp [ho]] at this
      exact this
    have hnext : ∀ u w', Below w.heap.size w w' → (fs[i]).at_ u w' → wpAny P .any ops Q fuel (listed.setIfInBounds i true) ((fill 0 ops.toList a0 xs).put o.dst u) w' := by
      intro u w' hbw hfu
      rw [hput]
      refine ih _ _ _ (by simpa using hsz) ?_ (hb.trans (hbw.mono hb.size)) fun j f hj hl => ?_
      · have hcount : (List.range ops.size).countP (fun j => listed.getD j true == false) = (List.range ops.size).countP (fun j => (listed.setIfInBounds i true).getD j true == false) + 1 := by
          have hnd : (List.range ops.size).Nodup := List.nodup_range
          have hmem : i ∈ List.range ops.size := List.mem_range.2 hil
          generalize List.range ops.size = l at hnd hmem
          clear hc
          induction l with
          | nil => cases hmem
          | cons x l ihl =>
            obtain ⟨hx, hnd⟩ := List.nodup_cons.1 hnd
            by_cases hxi : x = i
            · subst hxi
              have e2 : (listed.setIfInBounds x true).getD x true = true := by
                have : x < listed.size := by omega
                simp [this]
              rw [List.countP_cons, List.countP_cons, h0, e2]
              have : l.countP (fun j => listed.getD j true == false) = l.countP (fun j => (listed.setIfInBounds x true).getD j true == false) := by
                refine List.countP_congr fun y hy => ?_
                have hne : x ≠ y := fun e => hx (e ▸ hy)
                rw [getD_set_ne true hne]
              rw [this]
              simp
            · have hm : i ∈ l := by
                rcases List.mem_cons.1 hmem with h | h
                · exact absurd h.symm hxi
                · exact h
              rw [List.countP_cons, List.countP_cons, getD_set_ne true (fun e => hxi e.symm), ihl hnd hm]
              omega
        omega
      · by_cases hji : j = i
        · subst hji
          rw [if_pos rfl]
          rw [List.getElem?_eq_getElem hfi] at hj
          injection hj with hj
          rw [← hj]
          exact hfu
        · rw [if_neg hji]
          rw [getD_set_ne false (fun e => hji e.symm)] at hl
          exact Fact.keep (hmono f (List.mem_of_getElem? hj)) hbw (hf j f hj hl)
    unfold wpOp
    simp only [ho]
    by_cases hw : Region.wanted o (yielded ops (fill 0 ops.toList a0 xs).tmps) = true
    · rw [if_pos hw] at hst ⊢
      exact .inl (wp_of_loc hst hnext)
    · rw [if_neg hw] at hst ⊢
      exact hnext undef w (Below.refl _ _) hst

/-- The rule: a region that draws its order, its operations written out. -/
theorem wp_region_loc {id : Nat} {Q : Exit → Act → World → Prop} {a0 : Act} {w : World} {l : List Oper} {fr : (Nat → Value) → Act} (hm : P.follows .mixedOrders = true)
    (hd : dstsOk a0.tmps.size l.toArray = true) (hl : lexOk l.toArray = true) (hfr : ∀ xs, fill 0 l a0 xs = fr xs) (h : wpLoc P l.toArray w fr (Q .normal) l []) : (Code.region id l.toArray true).wp P Q a0 w := by
  obtain ⟨fs, hfl, hmono, hstep, hend⟩ := facts_of_wpLoc l [] h
  simp only [dstsOk, Bool.and_eq_true, List.all_eq_true, decide_eq_true_eq] at hd
  refine wp_region_any hm ?_
  have hd2 : ∀ o ∈ l, ∃ d, o.dst = some d ∧ d < a0.tmps.size := fun o ho => by
    have := hd.1 o ho
    cases hod : o.dst with
    | none => rw [hod] at this; simp at this
    | some d => rw [hod] at this; exact ⟨d, rfl, by simpa using this⟩
  have hself : ∃ xs, fill 0 l a0 xs = a0 := by
    refine ⟨fun j => ((l[j]?).bind (·.dst)).elim undef fun d => a0.tmps.getD d undef, ?_⟩
    have : ∀ (l' : List Oper) (k : Nat) (ys : Nat → Value), (∀ o ∈ l', ∃ d, o.dst = some d ∧ d < a0.tmps.size) → (∀ j o, l'[j]? = some o → ys (k + j) = o.dst.elim undef fun d => a0.tmps.getD d undef) → fill k l' a0 ys = a0 := by
      intro l'
      induction l' with
      | nil => intros; rfl
      | cons o l' ih =>
        intro k ys h1 h2
        obtain ⟨d, hod, hdl⟩ := h1 o (by simp)
        have hk := h2 0 o rfl
        simp only [fill]
        have hp : a0.put o.dst (ys k) = a0 := by
          rw [Nat.add_zero] at hk
          rw [hk, hod]
          simp only [Act.put, Option.elim_some]
          have : a0.tmps.setIfInBounds d (a0.tmps.getD d undef) = a0.tmps := by
            apply Array.ext_getElem?
            intro i
            rw [Array.getElem?_setIfInBounds]
            by_cases hi : d = i
            · subst hi
              simp [hdl]
            · rw [if_neg hi]
          rw [this]
        rw [hp]
        exact ih (k + 1) ys (fun o ho => h1 o (by simp [ho])) fun j o hj => by
          have := h2 (j + 1) o (by simpa using hj)
          rwa [show k + (j + 1) = k + 1 + j by omega] at this
    exact this l 0 _ hd2 fun j o hj => by simp [hj]
  obtain ⟨xs, hxs⟩ := hself
  have hB : Below w.heap.size w { w with drawn := w.drawn + 1 } := ⟨rfl, rfl, rfl, Nat.le_refl _, fun _ _ => rfl⟩
  have := loc_any (P := P) (ops := l.toArray) (w0 := w) (a0 := a0) (Q := Q) (fs := fs) hd.2 (fun o ho => by obtain ⟨d, h, _⟩ := hd2 o ho; exact ⟨d, h⟩)
    (fun j o ho e he hb => by
      have h1 := List.all_eq_true.1 hl j (List.mem_range.2 (Array.getElem?_eq_some_iff.1 ho).1)
      rw [ho] at h1
      have h2 := List.all_eq_true.1 h1 e he
      simpa [hb] using h2)
    hfl hmono
    (fun j o f ho hf xs w' hb he => by
      have := hstep j o f (by simpa using ho) hf xs w' hb (by simpa using he)
      rw [← hfr] at this
      exact this)
    (fun xs w' hb hf => by rw [hfr]; exact hend xs w' hb (by simpa using hf))
    l.toArray.size (Array.replicate l.toArray.size false) xs _ (by simp) (by
      rw [List.countP_eq_length.2]
      · simp
      · intro j hj
        have : j < l.length := by simpa using hj
        simp [this]) hB (fun j f hj hl => by
      exfalso
      have : j < l.length := by rw [← hfl]; exact (List.getElem?_eq_some_iff.1 hj).1
      simp [this] at hl)
  rw [hxs] at this
  exact this
end
end Go.Proofs.YtgabpbnndikheaaDoor
