import Derived.Test.YtgabpbnndikheaaGreatDoorSp2
import Derived.Deep.Quiet
import Derived.Below
import Derived.WalkSpells
import Derived.WalkLawsBesides
import Derived.Lib.Hide
import Derived.Test.YtgabpbnndikheaaGreatDoorWWords
import Derived.Deep.DeepCutAuto
import Derived.WalkKit
import Derived.Test.YtgabpbnndikheaaGreatDoorProg
import Derived.Laws.Rows
import Derived.Laws.StructEq
import Derived.Test.YtgabpbnndikheaaGreatDoorSh
import Derived.Lib.AsciiSet
import Derived.Deep.WholeRow
import Derived.Laws.RangeString
import Derived.Lib.LaidTab
/-! A region that draws its order: each operation is told by a fact of its own, in every world behind the first one; any order serves. -/
namespace Go.Proofs.YtgabpbnndikheaaGreatDoor
open Go.RowKit

/-- What is known of an operation's value: the value itself, or what is true of it in this world and in all later ones. -/
inductive Fact where
  | det (v : Value)
  | fresh (f : Value → World → Prop)
def Fact.at_ : Fact → Value → World → Prop
  | .det v, u, _ => u = v
  | .fresh f, u, w => f u w
def Fact.mono : Fact → Prop
  | .det _ => True
  | .fresh f => ∀ u w w', Below w.heap.size w w' → f u w → f u w'
theorem Fact.keep {f : Fact} (hm : f.mono) {u : Value} {w w' : World} (hb : Below w.heap.size w w') (h : f.at_ u w) : f.at_ u w' := by
  cases f with
  | det v => exact h
  | fresh f => exact hm u w w' hb h

section
variable {P : Program}

def locUpon (P : Program) (w : World) (f : Fact) : Result Next → Prop
  | .ok (.value u) w' => Below w.heap.size w w' ∧ f.at_ u w'
  | .ok .skip w' => Below w.heap.size w w' ∧ f.at_ undef w'
  | .ok (.enter g args) w' => Below w.heap.size w w' ∧ Calls P g args w' (fun e w'' => ∃ u, e = .returned u ∧ Below w.heap.size w w'' ∧ f.at_ u w'')
  | _ => False
def locRun (P : Program) (o : Oper) (a : Act) (w : World) (f : Fact) : Prop := locUpon P w f ((execOp a.eval o).run P w)

theorem wp_of_loc {o : Oper} {a : Act} {w : World} {f : Fact} {K : Act → World → Prop} {Q : Exit → Act → World → Prop} (h : locRun P o a w f)
    (hK : ∀ u w', Below w.heap.size w w' → f.at_ u w' → K (a.put o.dst u) w') : o.wp P a w K Q := by
  unfold locRun at h
  unfold Oper.wp
  generalize (execOp a.eval o).run P w = r at *
  cases r with
  | ok n w' =>
    cases n <;> simp only [locUpon] at h <;> simp only [Oper.upon]
    case value u => exact hK _ _ h.1 h.2
    case skip => exact hK _ _ h.1 h.2
    case enter g args =>
      exact h.2.mono fun e w'' ⟨u, he, hb, hf⟩ => by subst he; exact hK _ _ hb hf
  | halt x w' => simp only [locUpon] at h

theorem at_det (v : Value) (w : World) : (Fact.det v).at_ v w := rfl
theorem loc_val {w : World} {v : Value} : locUpon P w (.det v) (.ok (.value v) w) := ⟨Below.refl _ _, rfl⟩
theorem loc_call {g : FuncId} {args : Array Value} {w : World} {v : Value} (h : Calls P g args w fun e w' => e = .returned v ∧ Below w.heap.size w w') : locUpon P w (.det v) (.ok (.enter g args) w) :=
  ⟨Below.refl _ _, h.mono fun _ _ ⟨he, hb⟩ => ⟨v, he, hb, rfl⟩⟩
theorem loc_call_same {g : FuncId} {args : Array Value} {w : World} {v : Value} (h : Calls P g args w fun e w' => e = .returned v ∧ w = w') : locUpon P w (.det v) (.ok (.enter g args) w) :=
  ⟨Below.refl _ _, h.mono fun _ w' ⟨he, hb⟩ => by subst hb; exact ⟨v, he, Below.refl _ _, rfl⟩⟩
theorem loc_call_fresh {g : FuncId} {args : Array Value} {w : World} {f : Value → World → Prop} (h : Calls P g args w fun e w' => ∃ v, e = .returned v ∧ f v w' ∧ Below w.heap.size w w') : locUpon P w (.fresh f) (.ok (.enter g args) w) :=
  ⟨Below.refl _ _, h.mono fun _ _ ⟨v, he, hf, hb⟩ => ⟨v, he, hb, hf⟩⟩

/-- The frame with the region's values put in. -/
def fill : Nat → List Oper → Act → (Nat → Value) → Act
  | _, [], a, _ => a
  | k, o :: l, a, xs => fill (k + 1) l (a.put o.dst (xs k)) xs

def edgeSat (facts : List Fact) (xs : Nat → Value) (w : World) : List Edge → Prop
  | [] => True
  | e :: es => (match Region.binds .any e, facts[e.on]? with
      | true, some f => f.at_ (xs e.on) w
      | _, _ => True) ∧ edgeSat facts xs w es
def factsAll (xs : Nat → Value) (w : World) : Nat → List Fact → Prop
  | _, [] => True
  | k, f :: fs => f.at_ (xs k) w ∧ factsAll xs w (k + 1) fs

/-- One operation after the other, each in whatever world and frame in which what it waits for has come up. -/
def wpLoc (P : Program) (ops : Array Oper) (w0 : World) (fr : (Nat → Value) → Act) (Q : Act → World → Prop) : List Oper → List Fact → Prop
  | [], facts => ∀ xs w, Below w0.heap.size w0 w → factsAll xs w 0 facts → Q (fr xs) w
  | o :: rest, facts => ∃ f : Fact, f.mono ∧
      (∀ xs w, Below w0.heap.size w0 w → edgeSat facts xs w o.after.toList → if Region.wanted o (yielded ops (fr xs).tmps) then locRun P o (fr xs) w f else f.at_ undef w) ∧
      wpLoc P ops w0 fr Q rest (facts ++ [f])

theorem wpLoc_nil {ops : Array Oper} {w0 : World} {fr : (Nat → Value) → Act} {Q : Act → World → Prop} {facts : List Fact} (h : ∀ xs w, Below w0.heap.size w0 w → factsAll xs w 0 facts → Q (fr xs) w) : wpLoc P ops w0 fr Q [] facts := h
theorem wpLoc_det {ops : Array Oper} {w0 : World} {fr : (Nat → Value) → Act} {Q : Act → World → Prop} {facts : List Fact} {o : Oper} {rest : List Oper} (v : Value)
    (h : ∀ xs w, Below w0.heap.size w0 w → edgeSat facts xs w o.after.toList → if Region.wanted o (yielded ops (fr xs).tmps) then locRun P o (fr xs) w (.det v) else v = undef) (hr : wpLoc P ops w0 fr Q rest (facts ++ [.det v])) : wpLoc P ops w0 fr Q (o :: rest) facts :=
  ⟨.det v, trivial, fun xs w hb he => by have := h xs w hb he; split at this <;> simp_all [Fact.at_], hr⟩
theorem wpLoc_fresh {ops : Array Oper} {w0 : World} {fr : (Nat → Value) → Act} {Q : Act → World → Prop} {facts : List Fact} {o : Oper} {rest : List Oper} (f : Value → World → Prop)
    (hm : ∀ u w w', Below w.heap.size w w' → f u w → f u w')
    (h : ∀ xs w, Below w0.heap.size w0 w → edgeSat facts xs w o.after.toList → if Region.wanted o (yielded ops (fr xs).tmps) then locRun P o (fr xs) w (.fresh f) else f undef w) (hr : wpLoc P ops w0 fr Q rest (facts ++ [.fresh f])) : wpLoc P ops w0 fr Q (o :: rest) facts :=
  ⟨.fresh f, hm, h, hr⟩

/-- The facts that the walk lays, and what each operation owes. -/
theorem facts_of_wpLoc {ops : Array Oper} {w0 : World} {fr : (Nat → Value) → Act} {Q : Act → World → Prop} : ∀ (l : List Oper) (facts : List Fact), wpLoc P ops w0 fr Q l facts →
    ∃ fs : List Fact, fs.length = l.length ∧ (∀ f ∈ fs, f.mono) ∧
      (∀ j o f, l[j]? = some o → fs[j]? = some f → ∀ xs w, Below w0.heap.size w0 w → edgeSat (facts ++ fs.take j) xs w o.after.toList → if Region.wanted o (yielded ops (fr xs).tmps) then locRun P o (fr xs) w f else f.at_ undef w) ∧
      (∀ xs w, Below w0.heap.size w0 w → factsAll xs w 0 (facts ++ fs) → Q (fr xs) w)
  | [], facts, h => ⟨[], rfl, by simp, fun j o f hj => by simp at hj, by simpa [wpLoc] using h⟩
  | o :: rest, facts, ⟨f, hm, hs, hr⟩ => by
    obtain ⟨fs, hl, hms, hss, hq⟩ := facts_of_wpLoc rest _ hr
    refine ⟨f :: fs, by simp [hl], by simpa using ⟨hm, hms⟩, fun j o' f' hj hf => ?_, by simpa using hq⟩
    cases j with
    | zero =>
      simp at hj hf
      subst hj hf
      simpa using hs
    | succ j =>
      simp at hj hf
      simpa using hss j o' f' hj hf

theorem factsAll_of {xs : Nat → Value} {w : World} : ∀ (fs : List Fact) (k : Nat), (∀ (j : Nat) (f : Fact), fs[j]? = some f → f.at_ (xs (k + j)) w) → factsAll xs w k fs
  | [], _, _ => trivial
  | f :: fs, k, h => ⟨by simpa using h 0 f rfl, factsAll_of fs (k + 1) fun j g hj => by have := h (j + 1) g (by simpa using hj); rwa [show k + (j + 1) = k + 1 + j by omega] at this⟩
theorem edgeSat_of {facts : List Fact} {xs : Nat → Value} {w : World} : ∀ (es : List Edge), (∀ e ∈ es, Region.binds .any e = true → ∀ f, facts[e.on]? = some f → f.at_ (xs e.on) w) → edgeSat facts xs w es
  | [], _ => trivial
  | e :: es, h => ⟨by
      cases hb : Region.binds .any e with
      | false => trivial
      | true =>
        cases hf : facts[e.on]? with
        | none => trivial
        | some f => exact h e (by simp) hb f hf, edgeSat_of es fun e' he => h e' (by simp [he])⟩

def dstsOk (n : Nat) (ops : Array Oper) : Bool :=
  ops.toList.all (fun o => match o.dst with | some d => decide (d < n) | none => false) && decide ((ops.toList.map (·.dst)).Nodup)
def lexOk (ops : Array Oper) : Bool := (List.range ops.size).all fun j => match ops[j]? with
  | some o => o.after.toList.all fun e => !Region.binds .any e || decide (e.on < j)
  | none => true

theorem put_put {a : Act} {d : Option Tmp} {u v : Value} : (a.put d u).put d v = a.put d v := by
  cases d with
  | none => rfl
  | some d => simp [Act.put]
theorem fill_put {u : Value} {i : Nat} : ∀ (l : List Oper) (k : Nat) (a : Act) (xs : Nat → Value), (l.map (·.dst)).Nodup → i < l.length → (∀ o ∈ l, o.dst.isSome) →
    (fill k l a xs).put ((l[i]?).bind (·.dst)) u = fill k l a (fun j => if j = k + i then u else xs j)
  | [], _, _, _, _, h, _ => absurd h (by simp)
  | o :: l, k, a, xs, hn, hi, hs => by
    have hn' := List.nodup_cons.1 hn
    have hne : ∀ (l : List Oper) (k : Nat) (b : Act) (ys : Nat → Value) (d : Option Tmp) (v : Value), d.isSome → d ∉ l.map (·.dst) → (fill k l b ys).put d v = fill k l (b.put d v) ys := by
      intro l
      induction l with
      | nil => intros; rfl
      | cons o' l ih =>
        intro k b ys d v hd hm
        simp only [List.map_cons, List.mem_cons, not_or] at hm
        simp only [fill]
        rw [ih (k + 1) _ ys d v hd hm.2]
        congr 1
        cases ho : o'.dst with
        | none => simp [Act.put]
        | some d' =>
          cases d with
          | none => simp at hd
          | some d => exact Act.put_comm b _ _ (fun d1 h1 h2 => hm.1 (by rw [ho, h2, h1]))
    have hsame : ∀ (l : List Oper) (k m : Nat) (b : Act) (ys zs : Nat → Value), (∀ j, k ≤ j → ys j = zs j) → fill k l b ys = fill k l b zs := by
      intro l
      induction l with
      | nil => intros; rfl
      | cons o' l ih =>
        intro k m b ys zs h
        simp only [fill]
        rw [h k (Nat.le_refl _)]
        exact ih (k + 1) m _ _ _ fun j hj => h j (by omega)
    cases i with
    | zero =>
      simp only [List.getElem?_cons_zero, Option.bind_some, fill, Nat.add_zero, if_true]
      rw [hne l (k + 1) _ xs o.dst u (hs o (by simp)) hn'.1, put_put]
      exact hsame l (k + 1) 0 _ _ _ fun j hj => by rw [if_neg (by omega)]
    | succ i =>
      simp only [List.getElem?_cons_succ, fill]
      rw [fill_put l (k + 1) _ xs hn'.2 (by simpa using hi) (fun o' ho' => hs o' (by simp [ho'])), if_neg (by omega)]
      exact hsame l (k + 1) 0 _ _ _ fun j hj => by
        by_cases h : j = k + 1 + i
        · rw [if_pos h, if_pos (by omega)]
        · rw [if_neg h, if_neg (by omega)]

/-- The frame as it stands: what has not come up yet still holds what it held. -/
theorem loc_any {ops : Array Oper} {w0 : World} {a0 : Act} {Q : Exit → Act → World → Prop} {fs : List Fact} (hn : (ops.toList.map (·.dst)).Nodup) (hd : ∀ o ∈ ops.toList, ∃ d, o.dst = some d)
    (hlex : ∀ (j : Nat) (o : Oper), ops[j]? = some o → ∀ e ∈ o.after.toList, Region.binds .any e = true → e.on < j) (hfl : fs.length = ops.toList.length) (hmono : ∀ f ∈ fs, f.mono)
    (hstep : ∀ (j : Nat) (o : Oper) (f : Fact), ops[j]? = some o → fs[j]? = some f → ∀ xs w, Below w0.heap.size w0 w → edgeSat (fs.take j) xs w o.after.toList → if Region.wanted o (yielded ops (fill 0 ops.toList a0 xs).tmps) then locRun P o (fill 0 ops.toList a0 xs) w f else f.at_ undef w)
    (hend : ∀ xs w, Below w0.heap.size w0 w → factsAll xs w 0 fs → Q .normal (fill 0 ops.toList a0 xs) w) :
    ∀ (fuel : Nat) (listed : Array Bool) (xs : Nat → Value) (w : World), listed.size = ops.size → (List.range ops.size).countP (fun j => listed.getD j true == false) = fuel → Below w0.heap.size w0 w →
      (∀ (j : Nat) (f : Fact), fs[j]? = some f → listed.getD j false = true → f.at_ (xs j) w) → wpAny P .any ops Q fuel listed (fill 0 ops.toList a0 xs) w := by
  have hdone : ∀ (listed : Array Bool) (xs : Nat → Value) (w : World), listed.size = ops.size → Region.ready .any ops listed = [] → Below w0.heap.size w0 w →
      (∀ (j : Nat) (f : Fact), fs[j]? = some f → listed.getD j false = true → f.at_ (xs j) w) → Q .normal (fill 0 ops.toList a0 xs) w := by
    intro listed xs w hsz hr hb hf
    have hall : ∀ j, j < ops.size → listed.getD j false = true := by
      intro j
      induction j using Nat.strongRecOn with
      | _ j ih =>
        intro hj
        cases hc : listed.getD j false with
        | true => rfl
        | false =>
          exfalso
          have hmem : j ∈ Region.ready .any ops listed := by
            rw [mem_ready]
            refine ⟨?_, ops[j], Array.getElem?_eq_getElem hj, fun e he hbd => ?_⟩
            · have hjl : j < listed.size := by omega
              simp only [Array.getD_eq_getD_getElem?, Array.getElem?_eq_getElem hjl, Option.getD_some] at hc ⊢
              exact hc
            · have := hlex j _ (Array.getElem?_eq_getElem hj) e (Array.mem_toList_iff.2 he) hbd
              exact ih _ this (by omega)
          rw [hr] at hmem
          cases hmem
    refine hend xs w hb (factsAll_of fs 0 fun j f hj => ?_)
    rw [Nat.zero_add]
    have hjl : j < ops.size := by
      have := (List.getElem?_eq_some_iff.1 hj).1
      rw [hfl] at this
      simpa using this
    exact hf j f hj (hall j hjl)
  have hready : ∀ (listed : Array Bool), (List.range ops.size).countP (fun j => listed.getD j true == false) = 0 → Region.ready .any ops listed = [] := by
    intro listed h
    rw [List.countP_eq_zero] at h
    cases hr : Region.ready .any ops listed with
    | nil => rfl
    | cons j l =>
      exfalso
      have hm : j ∈ Region.ready .any ops listed := by rw [hr]; simp
      rw [mem_ready] at hm
      obtain ⟨h0, o, ho, _⟩ := hm
      exact h j (List.mem_range.2 (Array.getElem?_eq_some_iff.1 ho).1) (by rw [h0]; rfl)
  intro fuel
  induction fuel with
  | zero => exact fun listed xs w hsz hc hb hf => ⟨hready listed hc, hdone listed xs w hsz (hready listed hc) hb hf⟩
  | succ fuel ih =>
    intro listed xs w hsz hc hb hf
    refine ⟨fun hr => hdone listed xs w hsz hr hb hf, fun i hi => ?_⟩
    have hi' := hi
    rw [mem_ready] at hi'
    obtain ⟨h0, o, ho, hall⟩ := hi'
    have hil : i < ops.size := (Array.getElem?_eq_some_iff.1 ho).1
    have hfi : i < fs.length := by rw [hfl]; simpa using hil
    have hst := hstep i o fs[i] ho (List.getElem?_eq_getElem hfi) xs w hb (edgeSat_of _ fun e he hbd f hfe => by
      have hlt := hlex i o ho e he hbd
      rw [List.getElem?_take, if_pos hlt] at hfe
      exact hf _ f hfe (hall e (Array.mem_toList_iff.1 he) hbd))
    have hput : ∀ u, (fill 0 ops.toList a0 xs).put o.dst u = fill 0 ops.toList a0 (fun j => if j = i then u else xs j) := by
      intro u
      have := fill_put (u := u) (i := i) ops.toList 0 a0 xs hn (by simpa using hil) (fun o ho => by obtain ⟨d, hd⟩ := hd o ho; rw [hd]; rfl)
      simp only [Nat.zero_add] at this
      rw [show (ops.toList[i]?).bind (·.dst) = o.dst by simp [ho]] at this
      exact this
    have hnext : ∀ u w', Below w.heap.size w w' → (fs[i]).at_ u w' → wpAny P .any ops Q fuel (listed.setIfInBounds i true) ((fill 0 ops.toList a0 xs).put o.dst u) w' := by
      intro u w' hbw hfu
      rw [hput]
      refine ih _ _ _ (by simpa using hsz) ?_ (hb.trans (hbw.mono hb.size)) fun j f hj hl => ?_
      · have hcount : (List.range ops.size).countP (fun j => listed.getD j true == false) = (List.range ops.size).countP (fun j => (listed.setIfInBounds i true).getD j true == false) + 1 := by
          have hnd : (List.range ops.size).Nodup := List.nodup_range
          have hmem : i ∈ List.range ops.size := List.mem_range.2 hil
          generalize List.range ops.size = l at hnd hmem
          clear hc
          induction l with
          | nil => cases hmem
          | cons x l ihl =>
            obtain ⟨hx, hnd⟩ := List.nodup_cons.1 hnd
            by_cases hxi : x = i
            · subst hxi
              have e2 : (listed.setIfInBounds x true).getD x true = true := by
                have : x < listed.size := by omega
                simp [this]
              rw [List.countP_cons, List.countP_cons, h0, e2]
              have : l.countP (fun j => listed.getD j true == false) = l.countP (fun j => (listed.setIfInBounds x true).getD j true == false) := by
                refine List.countP_congr fun y hy => ?_
                have hne : x ≠ y := fun e => hx (e ▸ hy)
                rw [getD_set_ne true hne]
              rw [this]
              simp
            · have hm : i ∈ l := by
                rcases List.mem_cons.1 hmem with h | h
                · exact absurd h.symm hxi
                · exact h
              rw [List.countP_cons, List.countP_cons, getD_set_ne true (fun e => hxi e.symm), ihl hnd hm]
              omega
        omega
      · by_cases hji : j = i
        · subst hji
          rw [if_pos rfl]
          rw [List.getElem?_eq_getElem hfi] at hj
          injection hj with hj
          rw [← hj]
          exact hfu
        · rw [if_neg hji]
          rw [getD_set_ne false (fun e => hji e.symm)] at hl
          exact Fact.keep (hmono f (List.mem_of_getElem? hj)) hbw (hf j f hj hl)
    unfold wpOp
    simp only [ho]
    by_cases hw : Region.wanted o (yielded ops (fill 0 ops.toList a0 xs).tmps) = true
    · rw [if_pos hw] at hst ⊢
      exact .inl (wp_of_loc hst hnext)
    · rw [if_neg hw] at hst ⊢
      exact hnext undef w (Below.refl _ _) hst

/-- The rule: a region that draws its order, its operations written out. -/
theorem wp_region_loc {id : Nat} {Q : Exit → Act → World → Prop} {a0 : Act} {w : World} {l : List Oper} {fr : (Nat → Value) → Act} (hm : P.follows .mixedOrders = true)
    (hd : dstsOk a0.tmps.size l.toArray = true) (hl : lexOk l.toArray = true) (hfr : ∀ xs, fill 0 l a0 xs = fr xs) (h : wpLoc P l.toArray w fr (Q .normal) l []) : (Code.region id l.toArray true).wp P Q a0 w := by
  obtain ⟨fs, hfl, hmono, hstep, hend⟩ := facts_of_wpLoc l [] h
  simp only [dstsOk, Bool.and_eq_true, List.all_eq_true, decide_eq_true_eq] at hd
  refine wp_region_any hm ?_
  have hd2 : ∀ o ∈ l, ∃ d, o.dst = some d ∧ d < a0.tmps.size := fun o ho => by
    have := hd.1 o ho
    cases hod : o.dst with
    | none => rw [hod] at this; simp at this
    | some d => rw [hod] at this; exact ⟨d, rfl, by simpa using this⟩
  have hself : ∃ xs, fill 0 l a0 xs = a0 := by
    refine ⟨fun j => ((l[j]?).bind (·.dst)).elim undef fun d => a0.tmps.getD d undef, ?_⟩
    have : ∀ (l' : List Oper) (k : Nat) (ys : Nat → Value), (∀ o ∈ l', ∃ d, o.dst = some d ∧ d < a0.tmps.size) → (∀ j o, l'[j]? = some o → ys (k + j) = o.dst.elim undef fun d => a0.tmps.getD d undef) → fill k l' a0 ys = a0 := by
      intro l'
      induction l' with
      | nil => intros; rfl
      | cons o l' ih =>
        intro k ys h1 h2
        obtain ⟨d, hod, hdl⟩ := h1 o (by simp)
        have hk := h2 0 o rfl
        simp only [fill]
        have hp : a0.put o.dst (ys k) = a0 := by
          rw [Nat.add_zero] at hk
          rw [hk, hod]
          simp only [Act.put, Option.elim_some]
          have : a0.tmps.setIfInBounds d (a0.tmps.getD d undef) = a0.tmps := by
            apply Array.ext_getElem?
            intro i
            rw [Array.getElem?_setIfInBounds]
            by_cases hi : d = i
            · subst hi
              simp [hdl]
            · rw [if_neg hi]
          rw [this]
        rw [hp]
        exact ih (k + 1) ys (fun o ho => h1 o (by simp [ho])) fun j o hj => by
          have := h2 (j + 1) o (by simpa using hj)
          rwa [show k + (j + 1) = k + 1 + j by omega] at this
    exact this l 0 _ hd2 fun j o hj => by simp [hj]
  obtain ⟨xs, hxs⟩ := hself
  have hB : Below w.heap.size w { w with drawn := w.drawn + 1 } := ⟨rfl, rfl, rfl, Nat.le_refl _, fun _ _ => rfl⟩
  have := loc_any (P := P) (ops := l.toArray) (w0 := w) (a0 := a0) (Q := Q) (fs := fs) hd.2 (fun o ho => by obtain ⟨d, h, _⟩ := hd2 o ho; exact ⟨d, h⟩)
    (fun j o ho e he hb => by
      have h1 := List.all_eq_true.1 hl j (List.mem_range.2 (Array.getElem?_eq_some_iff.1 ho).1)
      rw [ho] at h1
      have h2 := List.all_eq_true.1 h1 e he
      simpa [hb] using h2)
    hfl hmono
    (fun j o f ho hf xs w' hb he => by
      have := hstep j o f (by simpa using ho) hf xs w' hb (by simpa using he)
      rw [← hfr] at this
      exact this)
    (fun xs w' hb hf => by rw [hfr]; exact hend xs w' hb (by simpa using hf))
    l.toArray.size (Array.replicate l.toArray.size false) xs _ (by simp) (by
      rw [List.countP_eq_length.2]
      · simp
      · intro j hj
        have : j < l.length := by simpa using hj
        simp [this]) hB (fun j f hj hl => by
      exfalso
      have : j < l.length := by rw [← hfl]; exact (List.getElem?_eq_some_iff.1 hj).1
      simp [this] at hl)
  rw [hxs] at this
  exact this
end
end Go.Proofs.YtgabpbnndikheaaGreatDoor

/-! A region that draws its order and whose last operation waits for all others (a store of what was made). -/
namespace Go.Proofs.YtgabpbnndikheaaGreatDoor
open Go.RowKit
section
variable {P : Program}

def closed (ops : Array Oper) (listed : Array Bool) : Prop := ∀ (j : Nat) (o : Oper), ops[j]? = some o → listed.getD j false = true → ∀ e ∈ o.after.toList, Region.binds .any e = true → listed.getD e.on false = true
/-- Each operation but the last one is waited for by a later one. -/
def coverOk (ops : Array Oper) : Bool := (List.range (ops.size - 1)).all fun j => (List.range ops.size).any fun k => decide (j < k) && (match ops[k]? with | some o => o.after.toList.any fun e => Region.binds .any e && (e.on == j) | none => false)
theorem all_of_last {ops : Array Oper} {listed : Array Bool} {n : Nat} (hn : ops.size = n + 1) (hc : coverOk ops = true) (hcl : closed ops listed) (hr : n ∈ Region.ready .any ops listed) : ∀ j, j < n → listed.getD j false = true := by
  have key : ∀ d j, j + d = n → j < n → listed.getD j false = true := by
    intro d
    induction d using Nat.strongRecOn with
    | _ d ih =>
      intro j hjd hj
      have h1 := List.all_eq_true.1 hc j (List.mem_range.2 (by omega))
      obtain ⟨k, hk, h2⟩ := List.any_eq_true.1 h1
      rw [List.mem_range] at hk
      simp only [Bool.and_eq_true, decide_eq_true_eq] at h2
      obtain ⟨hjk, h2⟩ := h2
      rw [Array.getElem?_eq_getElem hk] at h2
      simp only [List.any_eq_true, Bool.and_eq_true, beq_iff_eq] at h2
      obtain ⟨e, he, hb, hon⟩ := h2
      by_cases hkn : k = n
      · subst hkn
        rw [mem_ready] at hr
        obtain ⟨_, o, ho, hall⟩ := hr
        rw [Array.getElem?_eq_getElem hk] at ho
        injection ho with ho
        subst ho
        have := hall e (Array.mem_toList_iff.1 he) hb
        rwa [hon] at this
      · have hl := ih (n - k) (by omega) k (by omega) (by omega)
        have := hcl k _ (Array.getElem?_eq_getElem hk) hl e he hb
        rwa [hon] at this
  intro j hj
  exact key (n - j) j (by omega) hj
theorem ready_nil {ops : Array Oper} {listed : Array Bool} (hsz : listed.size = ops.size) (h : ∀ j, j < ops.size → listed.getD j false = true) : Region.ready .any ops listed = [] := by
  cases hr : Region.ready .any ops listed with
  | nil => rfl
  | cons j l =>
    exfalso
    have hm : j ∈ Region.ready .any ops listed := by rw [hr]; simp
    rw [mem_ready] at hm
    obtain ⟨h0, o, ho, _⟩ := hm
    have hj : j < ops.size := (Array.getElem?_eq_some_iff.1 ho).1
    have := h j hj
    have hjl : j < listed.size := by omega
    simp only [Array.getD_eq_getD_getElem?, Array.getElem?_eq_getElem hjl, Option.getD_some] at this h0
    rw [this] at h0
    cases h0
theorem wpAny_done {ops : Array Oper} {Q : Exit → Act → World → Prop} {fuel : Nat} {listed : Array Bool} {a : Act} {w : World} (hr : Region.ready .any ops listed = []) (h : Q .normal a w) : wpAny P .any ops Q fuel listed a w := by
  cases fuel with
  | zero => exact ⟨hr, h⟩
  | succ n => exact ⟨fun _ => h, fun i hi => by rw [hr] at hi; cases hi⟩

theorem loc_any_last {ops : Array Oper} {l : List Oper} {ol : Oper} (hops : ops.toList = l ++ [ol]) {w0 : World} {a0 : Act} {Q : Exit → Act → World → Prop} {fs : List Fact} (hn : (l.map (·.dst)).Nodup) (hd : ∀ o ∈ l, ∃ d, o.dst = some d)
    (hlex : ∀ (j : Nat) (o : Oper), ops[j]? = some o → ∀ e ∈ o.after.toList, Region.binds .any e = true → e.on < j) (hcov : coverOk ops = true) (hfl : fs.length = l.length) (hmono : ∀ f ∈ fs, f.mono)
    (hstep : ∀ (j : Nat) (o : Oper) (f : Fact), l[j]? = some o → fs[j]? = some f → ∀ xs w, Below w0.heap.size w0 w → edgeSat (fs.take j) xs w o.after.toList → if Region.wanted o (yielded ops (fill 0 l a0 xs).tmps) then locRun P o (fill 0 l a0 xs) w f else f.at_ undef w)
    (hend : ∀ xs w, Below w0.heap.size w0 w → factsAll xs w 0 fs → if Region.wanted ol (yielded ops (fill 0 l a0 xs).tmps) then ol.wp P (fill 0 l a0 xs) w (Q .normal) Q else Q .normal ((fill 0 l a0 xs).put ol.dst undef) w) :
    ∀ (fuel : Nat) (listed : Array Bool) (xs : Nat → Value) (w : World), listed.size = ops.size → (List.range ops.size).countP (fun j => listed.getD j true == false) = fuel → closed ops listed → listed.getD l.length false = false → Below w0.heap.size w0 w →
      (∀ (j : Nat) (f : Fact), fs[j]? = some f → listed.getD j false = true → f.at_ (xs j) w) → wpAny P .any ops Q fuel listed (fill 0 l a0 xs) w := by
  have hsize : ops.size = l.length + 1 := by rw [← Array.length_toList, hops]; simp
  have hat : ∀ j, ops[j]? = (l ++ [ol])[j]? := fun j => by rw [← hops, Array.getElem?_toList]
  have hlastAt : ops[l.length]? = some ol := by rw [hat]; simp
  intro fuel
  induction fuel with
  | zero =>
    intro listed xs w hsz hc hcl hl0 hb hf
    exfalso
    rw [List.countP_eq_zero] at hc
    refine hc l.length (List.mem_range.2 (by omega)) ?_
    have hjl : l.length < listed.size := by omega
    simp only [Array.getD_eq_getD_getElem?, Array.getElem?_eq_getElem hjl, Option.getD_some] at hl0 ⊢
    rw [hl0]; rfl
  | succ fuel ih =>
    intro listed xs w hsz hc hcl hl0 hb hf
    refine ⟨fun hr => ?_, fun i hi => ?_⟩
    · exfalso
      have hall : ∀ j, j < ops.size → listed.getD j false = true := by
        intro j
        induction j using Nat.strongRecOn with
        | _ j ihj =>
          intro hj
          cases hcj : listed.getD j false with
          | true => rfl
          | false =>
            exfalso
            have hmem : j ∈ Region.ready .any ops listed := by
              rw [mem_ready]
              refine ⟨?_, ops[j], Array.getElem?_eq_getElem hj, fun e he hbd => ?_⟩
              · have hjl : j < listed.size := by omega
                simp only [Array.getD_eq_getD_getElem?, Array.getElem?_eq_getElem hjl, Option.getD_some] at hcj ⊢
                exact hcj
              · have := hlex j _ (Array.getElem?_eq_getElem hj) e (Array.mem_toList_iff.2 he) hbd
                exact ihj _ this (by omega)
            rw [hr] at hmem
            cases hmem
      rw [hall _ (by omega)] at hl0
      cases hl0
    have hi' := hi
    rw [mem_ready] at hi'
    obtain ⟨h0, o, ho, hall⟩ := hi'
    have hil : i < ops.size := (Array.getElem?_eq_some_iff.1 ho).1
    by_cases hin : i = l.length
    · subst hin
      rw [hlastAt] at ho
      injection ho with ho
      subst ho
      have hothers := all_of_last hsize hcov hcl hi
      have hfacts : factsAll xs w 0 fs := factsAll_of fs 0 fun j f hj => by
        rw [Nat.zero_add]
        have hjl : j < l.length := by rw [← hfl]; exact (List.getElem?_eq_some_iff.1 hj).1
        exact hf j f hj (hothers j hjl)
      have he := hend xs w hb hfacts
      have hr' : Region.ready .any ops (listed.setIfInBounds l.length true) = [] := ready_nil (by simpa using hsz) fun j hj => by
        by_cases hjn : l.length = j
        · subst hjn
          have : l.length < listed.size := by omega
          simp [this]
        · rw [getD_set_ne false hjn]
          exact hothers j (by omega)
      unfold wpOp
      simp only [hlastAt]
      split
      · rename_i hw
        rw [if_pos hw] at he
        exact .inl (Oper.wp_mono (fun a w' h => wpAny_done hr' h) he)
      · rename_i hw
        rw [if_neg hw] at he
        exact wpAny_done hr' he
    have hil' : i < l.length := by omega
    have ho' : l[i]? = some o := by rw [hat, List.getElem?_append_left hil'] at ho; exact ho
    have hfi : i < fs.length := by omega
    have hst := hstep i o fs[i] ho' (List.getElem?_eq_getElem hfi) xs w hb (edgeSat_of _ fun e he hbd f hfe => by
      have hlt := hlex i o ho e he hbd
      rw [List.getElem?_take, if_pos hlt] at hfe
      exact hf _ f hfe (hall e (Array.mem_toList_iff.1 he) hbd))
    have hput : ∀ u, (fill 0 l a0 xs).put o.dst u = fill 0 l a0 (fun j => if j = i then u else xs j) := by
      intro u
      have := fill_put (u := u) (i := i) l 0 a0 xs hn hil' (fun o ho => by obtain ⟨d, hd⟩ := hd o ho; rw [hd]; rfl)
      simp only [Nat.zero_add] at this
      rw [show (l[i]?).bind (·.dst) = o.dst by simp [ho']] at this
      exact this
    have hnext : ∀ u w', Below w.heap.size w w' → (fs[i]).at_ u w' → wpAny P .any ops Q fuel (listed.setIfInBounds i true) ((fill 0 l a0 xs).put o.dst u) w' := by
      intro u w' hbw hfu
      rw [hput]
      refine ih _ _ _ (by simpa using hsz) ?_ ?_ ?_ (hb.trans (hbw.mono hb.size)) fun j f hj hl => ?_
      · have hcount : (List.range ops.size).countP (fun j => listed.getD j true == false) = (List.range ops.size).countP (fun j => (listed.setIfInBounds i true).getD j true == false) + 1 := by
          have hnd : (List.range ops.size).Nodup := List.nodup_range
          have hmem : i ∈ List.range ops.size := List.mem_range.2 hil
          generalize List.range ops.size = l at hnd hmem
          clear hc
          induction l with
          | nil => cases hmem
          | cons x l ihl =>
            obtain ⟨hx, hnd⟩ := List.nodup_cons.1 hnd
            by_cases hxi : x = i
            · subst hxi
              have e2 : (listed.setIfInBounds x true).getD x true = true := by
                have : x < listed.size := by omega
                simp [this]
              rw [List.countP_cons, List.countP_cons, h0, e2]
              have : l.countP (fun j => listed.getD j true == false) = l.countP (fun j => (listed.setIfInBounds x true).getD j true == false) := by
                refine List.countP_congr fun y hy => ?_
                have hne : x ≠ y := fun e => hx (e ▸ hy)
                rw [getD_set_ne true hne]
              rw [this]
              simp
            · have hm : i ∈ l := by
                rcases List.mem_cons.1 hmem with h | h
                · exact absurd h.symm hxi
                · exact h
              rw [List.countP_cons, List.countP_cons, getD_set_ne true (fun e => hxi e.symm), ihl hnd hm]
              omega
        omega
      · intro j o2 hj hlj e he hbd
        by_cases hei : i = e.on
        · rw [← hei]
          have : i < listed.size := by omega
          simp [this]
        rw [getD_set_ne false hei]
        by_cases hij : i = j
        · subst hij
          rw [ho] at hj
          injection hj with hj
          subst hj
          exact hall e (Array.mem_toList_iff.1 he) hbd
        · rw [getD_set_ne false hij] at hlj
          exact hcl j o2 hj hlj e he hbd
      · rw [getD_set_ne false (fun e => by omega)]
        exact hl0
      · by_cases hji : j = i
        · subst hji
          rw [if_pos rfl]
          rw [List.getElem?_eq_getElem hfi] at hj
          injection hj with hj
          rw [← hj]
          exact hfu
        · rw [if_neg hji]
          rw [getD_set_ne false (fun e => hji e.symm)] at hl
          exact Fact.keep (hmono f (List.mem_of_getElem? hj)) hbw (hf j f hj hl)
    unfold wpOp
    simp only [ho]
    by_cases hw : Region.wanted o (yielded ops (fill 0 l a0 xs).tmps) = true
    · rw [if_pos hw] at hst ⊢
      exact .inl (wp_of_loc hst hnext)
    · rw [if_neg hw] at hst ⊢
      exact hnext undef w (Below.refl _ _) hst

/-- The rule: a region that draws its order; its last operation waits for all others. -/
theorem wp_region_last {id : Nat} {Q : Exit → Act → World → Prop} {a0 : Act} {w : World} {l : List Oper} {ol : Oper} {fr : (Nat → Value) → Act} (hm : P.follows .mixedOrders = true)
    (hd : dstsOk a0.tmps.size l.toArray = true) (hl : lexOk (l ++ [ol]).toArray = true) (hcov : coverOk (l ++ [ol]).toArray = true) (hfr : ∀ xs, fill 0 l a0 xs = fr xs)
    (h : wpLoc P (l ++ [ol]).toArray w fr (fun a w' => if Region.wanted ol (yielded (l ++ [ol]).toArray a.tmps) then ol.wp P a w' (Q .normal) Q else Q .normal (a.put ol.dst undef) w') l []) : (Code.region id (l ++ [ol]).toArray true).wp P Q a0 w := by
  obtain ⟨fs, hfl, hmono, hstep, hend⟩ := facts_of_wpLoc l [] h
  simp only [dstsOk, Bool.and_eq_true, List.all_eq_true, decide_eq_true_eq] at hd
  refine wp_region_any hm ?_
  have hd2 : ∀ o ∈ l, ∃ d, o.dst = some d ∧ d < a0.tmps.size := fun o ho => by
    have := hd.1 o ho
    cases hod : o.dst with
    | none => rw [hod] at this; simp at this
    | some d => rw [hod] at this; exact ⟨d, rfl, by simpa using this⟩
  have hself : ∃ xs, fill 0 l a0 xs = a0 := by
    refine ⟨fun j => ((l[j]?).bind (·.dst)).elim undef fun d => a0.tmps.getD d undef, ?_⟩
    have : ∀ (l' : List Oper) (k : Nat) (ys : Nat → Value), (∀ o ∈ l', ∃ d, o.dst = some d ∧ d < a0.tmps.size) → (∀ j o, l'[j]? = some o → ys (k + j) = o.dst.elim undef fun d => a0.tmps.getD d undef) → fill k l' a0 ys = a0 := by
      intro l'
      induction l' with
      | nil => intros; rfl
      | cons o l' ih =>
        intro k ys h1 h2
        obtain ⟨d, hod, hdl⟩ := h1 o (by simp)
        have hk := h2 0 o rfl
        simp only [fill]
        have hp : a0.put o.dst (ys k) = a0 := by
          rw [Nat.add_zero] at hk
          rw [hk, hod]
          simp only [Act.put, Option.elim_some]
          have : a0.tmps.setIfInBounds d (a0.tmps.getD d undef) = a0.tmps := by
            apply Array.ext_getElem?
            intro i
            rw [Array.getElem?_setIfInBounds]
            by_cases hi : d = i
            · subst hi
              simp [hdl]
            · rw [if_neg hi]
          rw [this]
        rw [hp]
        exact ih (k + 1) ys (fun o ho => h1 o (by simp [ho])) fun j o hj => by
          have := h2 (j + 1) o (by simpa using hj)
          rwa [show k + (j + 1) = k + 1 + j by omega] at this
    exact this l 0 _ hd2 fun j o hj => by simp [hj]
  obtain ⟨xs, hxs⟩ := hself
  have hB : Below w.heap.size w { w with drawn := w.drawn + 1 } := ⟨rfl, rfl, rfl, Nat.le_refl _, fun _ _ => rfl⟩
  have := loc_any_last (P := P) (ops := (l ++ [ol]).toArray) (l := l) (ol := ol) (by simp) (w0 := w) (a0 := a0) (Q := Q) (fs := fs) hd.2 (fun o ho => by obtain ⟨d, h, _⟩ := hd2 o ho; exact ⟨d, h⟩)
    (fun j o ho e he hb => by
      have h1 := List.all_eq_true.1 hl j (List.mem_range.2 (Array.getElem?_eq_some_iff.1 ho).1)
      rw [ho] at h1
      have h2 := List.all_eq_true.1 h1 e he
      simpa [hb] using h2)
    hcov hfl hmono
    (fun j o f ho hf xs w' hb he => by
      have := hstep j o f ho hf xs w' hb (by simpa using he)
      rw [← hfr] at this
      exact this)
    (fun xs w' hb hf => by rw [hfr]; exact hend xs w' hb (by simpa using hf))
    (l ++ [ol]).toArray.size (Array.replicate (l ++ [ol]).toArray.size false) xs _ (by simp) (by
      rw [List.countP_eq_length.2]
      · simp
      · intro j hj
        have : j < l.length + 1 := by simpa using hj
        simp [this]) (fun j o hj hl => by
      exfalso
      have : j < l.length + 1 := by simpa using (Array.getElem?_eq_some_iff.1 hj).1
      simp [this] at hl) (by simp) hB (fun j f hj hl => by
      exfalso
      have : j < l.length := by rw [← hfl]; exact (List.getElem?_eq_some_iff.1 hj).1
      have : j < l.length + 1 := by omega
      simp [this] at hl)
  rw [hxs] at this
  exact this
theorem wp_region_last' {id : Nat} {Q : Exit → Act → World → Prop} {a0 : Act} {w : World} {ops : Array Oper} (l : List Oper) {ol : Oper} {fr : (Nat → Value) → Act} (hops : ops = (l ++ [ol]).toArray) (hm : P.follows .mixedOrders = true)
    (hd : dstsOk a0.tmps.size l.toArray = true) (hl : lexOk (l ++ [ol]).toArray = true) (hcov : coverOk (l ++ [ol]).toArray = true) (hfr : ∀ xs, fill 0 l a0 xs = fr xs)
    (h : wpLoc P (l ++ [ol]).toArray w fr (fun a w' => if Region.wanted ol (yielded (l ++ [ol]).toArray a.tmps) then ol.wp P a w' (Q .normal) Q else Q .normal (a.put ol.dst undef) w') l []) : (Code.region id ops true).wp P Q a0 w := by
  subst hops
  exact wp_region_last hm hd hl hcov hfr h
end
end Go.Proofs.YtgabpbnndikheaaGreatDoor

/-! A region that draws its order and ends in operations that come one after the other. -/
namespace Go.Proofs.YtgabpbnndikheaaGreatDoor
open Go.RowKit
section
variable {P : Program}

theorem count_set {n i : Nat} {listed : Array Bool} (hsz : listed.size = n) (hil : i < n) (h0 : listed.getD i true = false) :
    (List.range n).countP (fun j => listed.getD j true == false) = (List.range n).countP (fun j => (listed.setIfInBounds i true).getD j true == false) + 1 := by
  have hnd : (List.range n).Nodup := List.nodup_range
  have hmem : i ∈ List.range n := List.mem_range.2 hil
  generalize List.range n = l at hnd hmem
  induction l with
  | nil => cases hmem
  | cons x l ihl =>
    obtain ⟨hx, hnd⟩ := List.nodup_cons.1 hnd
    by_cases hxi : x = i
    · subst hxi
      have e2 : (listed.setIfInBounds x true).getD x true = true := by
        have : x < listed.size := by omega
        simp [this]
      rw [List.countP_cons, List.countP_cons, h0, e2]
      have : l.countP (fun j => listed.getD j true == false) = l.countP (fun j => (listed.setIfInBounds x true).getD j true == false) := by
        refine List.countP_congr fun y hy => ?_
        have hne : x ≠ y := fun e => hx (e ▸ hy)
        rw [getD_set_ne true hne]
      rw [this]
      simp
    · have hm : i ∈ l := by
        rcases List.mem_cons.1 hmem with h | h
        · exact absurd h.symm hxi
        · exact h
      rw [List.countP_cons, List.countP_cons, getD_set_ne true (fun e => hxi e.symm), ihl hnd hm]
      omega
theorem getD_sw {listed : Array Bool} {j : Nat} (h : j < listed.size) (b : Bool) : listed.getD j b = listed.getD j (!b) := by
  simp only [Array.getD_eq_getD_getElem?, Array.getElem?_eq_getElem h, Option.getD_some]

/-- The operations one after the other. -/
def wpSeq (P : Program) (ops : Array Oper) (Q : Exit → Act → World → Prop) : List Oper → Act → World → Prop
  | [], a, w => Q .normal a w
  | o :: t, a, w => if Region.wanted o (yielded ops a.tmps) then o.wp P a w (wpSeq P ops Q t) Q else wpSeq P ops Q t (a.put o.dst undef) w
/-- From the n-th on each operation waits for the one before it. -/
def rowOk (n : Nat) (ops : Array Oper) : Bool := (List.range ops.size).all fun j => decide (j ≤ n) || (match ops[j]? with | some o => o.after.toList.any fun e => Region.binds .any e && (e.on + 1 == j) | none => false)
theorem row_edge {n : Nat} {ops : Array Oper} (h : rowOk n ops = true) {j : Nat} {o : Oper} (ho : ops[j]? = some o) (hj : n < j) : ∃ e ∈ o.after.toList, Region.binds .any e = true ∧ e.on + 1 = j := by
  have h1 := List.all_eq_true.1 h j (List.mem_range.2 (Array.getElem?_eq_some_iff.1 ho).1)
  rw [ho] at h1
  simp only [Bool.or_eq_true, decide_eq_true_eq, List.any_eq_true, Bool.and_eq_true, beq_iff_eq] at h1
  rcases h1 with h1 | ⟨e, he, hb, hon⟩
  · omega
  · exact ⟨e, he, hb, hon⟩
theorem tail_any {ops : Array Oper} {Q : Exit → Act → World → Prop} {n : Nat} (hrow : rowOk n ops = true) (hlex : ∀ (j : Nat) (o : Oper), ops[j]? = some o → ∀ e ∈ o.after.toList, Region.binds .any e = true → e.on < j) :
    ∀ (t : List Oper) (m fuel : Nat) (listed : Array Bool) (a : Act) (w : World), ops.toList.drop m = t → n ≤ m → m ≤ ops.size → listed.size = ops.size → (∀ j, j < m → listed.getD j false = true) → (∀ j, m ≤ j → j < ops.size → listed.getD j true = false) →
      (List.range ops.size).countP (fun j => listed.getD j true == false) = fuel → wpSeq P ops Q t a w → wpAny P .any ops Q fuel listed a w
  | [], m, fuel, listed, a, w, ht, hnm, hm, hsz, h1, h2, hc, h => by
    have hml : ops.size ≤ m := by
      have := List.drop_eq_nil_iff.1 ht
      simpa using this
    exact wpAny_done (ready_nil hsz fun j hj => h1 j (by omega)) h
  | o :: t, m, fuel, listed, a, w, ht, hnm, hm, hsz, h1, h2, hc, h => by
    have hmo : ops[m]? = some o := by
      have := congrArg List.head? ht
      rw [List.head?_drop, List.head?_cons, Array.getElem?_toList] at this
      exact this
    have hml : m < ops.size := (Array.getElem?_eq_some_iff.1 hmo).1
    have ht' : ops.toList.drop (m + 1) = t := by
      rw [← List.drop_drop, ht, List.drop_one, List.tail_cons]
    have hcs := count_set hsz hml (h2 m (Nat.le_refl _) hml)
    have hready : m ∈ Region.ready .any ops listed := by
      rw [mem_ready]
      exact ⟨h2 m (Nat.le_refl _) hml, o, hmo, fun e he hb => h1 _ (hlex m o hmo e (Array.mem_toList_iff.2 he) hb)⟩
    cases fuel with
    | zero => exfalso; omega
    | succ fuel =>
      refine ⟨fun hr => (by rw [hr] at hready; cases hready), fun i hi => ?_⟩
      have hi' := hi
      rw [mem_ready] at hi'
      obtain ⟨h0, o', ho', hall⟩ := hi'
      have hil : i < ops.size := (Array.getElem?_eq_some_iff.1 ho').1
      have him : i = m := by
        rcases Nat.lt_trichotomy i m with hlt | he | hgt
        · have := h1 i hlt
          rw [getD_sw (by omega)] at this
          simp only [Bool.not_false] at this
          rw [h0] at this
          cases this
        · exact he
        · obtain ⟨e, he, hb, hon⟩ := row_edge hrow ho' (by omega)
          have h3 := hall e (Array.mem_toList_iff.1 he) hb
          have h4 := h2 e.on (by omega) (by omega)
          rw [getD_sw (by omega)] at h4
          simp only [Bool.not_true] at h4
          rw [h3] at h4
          cases h4
      subst him
      rw [hmo] at ho'
      injection ho' with ho'
      subst ho'
      have hgo : ∀ a' w', wpSeq P ops Q t a' w' → wpAny P .any ops Q fuel (listed.setIfInBounds i true) a' w' := fun a' w' h' => by
        refine tail_any hrow hlex t (i + 1) fuel _ a' w' ht' (by omega) (by omega) (by simpa using hsz) (fun j hj => ?_) (fun j hj hjl => ?_) (by omega) h'
        · by_cases hij : i = j
          · subst hij
            have : i < listed.size := by omega
            simp [this]
          · rw [getD_set_ne false hij]
            exact h1 j (by omega)
        · rw [getD_set_ne true (by omega)]
          exact h2 j (by omega) hjl
      unfold wpOp
      simp only [hmo]
      unfold wpSeq at h
      split
      · rename_i hw
        rw [if_pos hw] at h
        exact .inl (Oper.wp_mono hgo h)
      · rename_i hw
        rw [if_neg hw] at h
        exact hgo _ _ h
/-- Each of the first n operations is waited for by a later one, at most the n-th. -/
def coverN (n : Nat) (ops : Array Oper) : Bool := (List.range n).all fun j => (List.range (n + 1)).any fun k => decide (j < k) && (match ops[k]? with | some o => o.after.toList.any fun e => Region.binds .any e && (e.on == j) | none => false)
theorem all_of_nth {ops : Array Oper} {listed : Array Bool} {n : Nat} (hc : coverN n ops = true) (hcl : closed ops listed) (hr : n ∈ Region.ready .any ops listed) : ∀ j, j < n → listed.getD j false = true := by
  have key : ∀ d j, j + d = n → j < n → listed.getD j false = true := by
    intro d
    induction d using Nat.strongRecOn with
    | _ d ih =>
      intro j hjd hj
      have h1 := List.all_eq_true.1 hc j (List.mem_range.2 hj)
      obtain ⟨k, hk, h2⟩ := List.any_eq_true.1 h1
      rw [List.mem_range] at hk
      simp only [Bool.and_eq_true, decide_eq_true_eq] at h2
      obtain ⟨hjk, h2⟩ := h2
      cases hok : ops[k]? with
      | none => rw [hok] at h2; cases h2
      | some o =>
        rw [hok] at h2
        simp only [List.any_eq_true, Bool.and_eq_true, beq_iff_eq] at h2
        obtain ⟨e, he, hb, hon⟩ := h2
        by_cases hkn : k = n
        · subst hkn
          rw [mem_ready] at hr
          obtain ⟨_, o', ho, hall⟩ := hr
          rw [hok] at ho
          injection ho with ho
          subst ho
          have := hall e (Array.mem_toList_iff.1 he) hb
          rwa [hon] at this
        · have hl := ih (n - k) (by omega) k (by omega) (by omega)
          have := hcl k _ hok hl e he hb
          rwa [hon] at this
  intro j hj
  exact key (n - j) j (by omega) hj

theorem loc_any_tail {ops : Array Oper} {l t : List Oper} {ol : Oper} (hops : ops.toList = l ++ ol :: t) {w0 : World} {a0 : Act} {Q : Exit → Act → World → Prop} {fs : List Fact} (hn : (l.map (·.dst)).Nodup) (hd : ∀ o ∈ l, ∃ d, o.dst = some d)
    (hlex : ∀ (j : Nat) (o : Oper), ops[j]? = some o → ∀ e ∈ o.after.toList, Region.binds .any e = true → e.on < j) (hcov : coverN l.length ops = true) (hrow : rowOk l.length ops = true) (hfl : fs.length = l.length) (hmono : ∀ f ∈ fs, f.mono)
    (hstep : ∀ (j : Nat) (o : Oper) (f : Fact), l[j]? = some o → fs[j]? = some f → ∀ xs w, Below w0.heap.size w0 w → edgeSat (fs.take j) xs w o.after.toList → if Region.wanted o (yielded ops (fill 0 l a0 xs).tmps) then locRun P o (fill 0 l a0 xs) w f else f.at_ undef w)
    (hend : ∀ xs w, Below w0.heap.size w0 w → factsAll xs w 0 fs → wpSeq P ops Q (ol :: t) (fill 0 l a0 xs) w) :
    ∀ (fuel : Nat) (listed : Array Bool) (xs : Nat → Value) (w : World), listed.size = ops.size → (List.range ops.size).countP (fun j => listed.getD j true == false) = fuel → closed ops listed → (∀ j, l.length ≤ j → j < ops.size → listed.getD j true = false) → Below w0.heap.size w0 w →
      (∀ (j : Nat) (f : Fact), fs[j]? = some f → listed.getD j false = true → f.at_ (xs j) w) → wpAny P .any ops Q fuel listed (fill 0 l a0 xs) w := by
  have hsize : ops.size = l.length + (t.length + 1) := by rw [← Array.length_toList, hops]; simp
  have hat : ∀ j, ops[j]? = (l ++ ol :: t)[j]? := fun j => by rw [← hops, Array.getElem?_toList]
  have htail : ops.toList.drop l.length = ol :: t := by rw [hops, List.drop_left]
  intro fuel
  induction fuel with
  | zero =>
    intro listed xs w hsz hc hcl hl0 hb hf
    exfalso
    rw [List.countP_eq_zero] at hc
    refine hc l.length (List.mem_range.2 (by omega)) ?_
    rw [hl0 _ (Nat.le_refl _) (by omega)]; rfl
  | succ fuel ih =>
    intro listed xs w hsz hc hcl hl0 hb hf
    by_cases hrdy : l.length ∈ Region.ready .any ops listed
    · have hothers := all_of_nth hcov hcl hrdy
      have hfacts : factsAll xs w 0 fs := factsAll_of fs 0 fun j f hj => by
        rw [Nat.zero_add]
        have hjl : j < l.length := by rw [← hfl]; exact (List.getElem?_eq_some_iff.1 hj).1
        exact hf j f hj (hothers j hjl)
      exact tail_any hrow hlex (ol :: t) l.length (fuel + 1) listed _ w htail (Nat.le_refl _) (by omega) hsz hothers hl0 hc (hend xs w hb hfacts)
    refine ⟨fun hr => ?_, fun i hi => ?_⟩
    · exfalso
      have hall : ∀ j, j < ops.size → listed.getD j false = true := by
        intro j
        induction j using Nat.strongRecOn with
        | _ j ihj =>
          intro hj
          cases hcj : listed.getD j false with
          | true => rfl
          | false =>
            exfalso
            have hmem : j ∈ Region.ready .any ops listed := by
              rw [mem_ready]
              refine ⟨?_, ops[j], Array.getElem?_eq_getElem hj, fun e he hbd => ?_⟩
              · have hjl : j < listed.size := by omega
                simp only [Array.getD_eq_getD_getElem?, Array.getElem?_eq_getElem hjl, Option.getD_some] at hcj ⊢
                exact hcj
              · have := hlex j _ (Array.getElem?_eq_getElem hj) e (Array.mem_toList_iff.2 he) hbd
                exact ihj _ this (by omega)
            rw [hr] at hmem
            cases hmem
      have h5 := hall l.length (by omega)
      have h6 := hl0 l.length (Nat.le_refl _) (by omega)
      rw [getD_sw (by omega)] at h6
      simp only [Bool.not_true] at h6
      rw [h5] at h6
      cases h6
    have hi' := hi
    rw [mem_ready] at hi'
    obtain ⟨h0, o, ho, hall⟩ := hi'
    have hil : i < ops.size := (Array.getElem?_eq_some_iff.1 ho).1
    have hil' : i < l.length := by
      rcases Nat.lt_trichotomy i l.length with hlt | he | hgt
      · exact hlt
      · subst he; exact absurd hi hrdy
      · exfalso
        obtain ⟨e, he, hb', hon⟩ := row_edge hrow ho hgt
        have h3 := hall e (Array.mem_toList_iff.1 he) hb'
        have h4 := hl0 e.on (by omega) (by omega)
        rw [getD_sw (by omega)] at h4
        simp only [Bool.not_true] at h4
        rw [h3] at h4
        cases h4
    have ho' : l[i]? = some o := by rw [hat, List.getElem?_append_left hil'] at ho; exact ho
    have hfi : i < fs.length := by omega
    have hst := hstep i o fs[i] ho' (List.getElem?_eq_getElem hfi) xs w hb (edgeSat_of _ fun e he hbd f hfe => by
      have hlt := hlex i o ho e he hbd
      rw [List.getElem?_take, if_pos hlt] at hfe
      exact hf _ f hfe (hall e (Array.mem_toList_iff.1 he) hbd))
    have hput : ∀ u, (fill 0 l a0 xs).put o.dst u = fill 0 l a0 (fun j => if j = i then u else xs j) := by
      intro u
      have := fill_put (u := u) (i := i) l 0 a0 xs hn hil' (fun o ho => by obtain ⟨d, hd⟩ := hd o ho; rw [hd]; rfl)
      simp only [Nat.zero_add] at this
      rw [show (l[i]?).bind (·.dst) = o.dst by simp [ho']] at this
      exact this
    have hcs := count_set hsz hil h0
    have hnext : ∀ u w', Below w.heap.size w w' → (fs[i]).at_ u w' → wpAny P .any ops Q fuel (listed.setIfInBounds i true) ((fill 0 l a0 xs).put o.dst u) w' := by
      intro u w' hbw hfu
      rw [hput]
      refine ih _ _ _ (by simpa using hsz) (by omega) ?_ ?_ (hb.trans (hbw.mono hb.size)) fun j f hj hl => ?_
      · intro j o2 hj hlj e he hbd
        by_cases hei : i = e.on
        · rw [← hei]
          have : i < listed.size := by omega
          simp [this]
        rw [getD_set_ne false hei]
        by_cases hij : i = j
        · subst hij
          rw [ho] at hj
          injection hj with hj
          subst hj
          exact hall e (Array.mem_toList_iff.1 he) hbd
        · rw [getD_set_ne false hij] at hlj
          exact hcl j o2 hj hlj e he hbd
      · intro j hj hjl
        rw [getD_set_ne true (fun e => by omega)]
        exact hl0 j hj hjl
      · by_cases hji : j = i
        · subst hji
          rw [if_pos rfl]
          rw [List.getElem?_eq_getElem hfi] at hj
          injection hj with hj
          rw [← hj]
          exact hfu
        · rw [if_neg hji]
          rw [getD_set_ne false (fun e => hji e.symm)] at hl
          exact Fact.keep (hmono f (List.mem_of_getElem? hj)) hbw (hf j f hj hl)
    unfold wpOp
    simp only [ho]
    by_cases hw : Region.wanted o (yielded ops (fill 0 l a0 xs).tmps) = true
    · rw [if_pos hw] at hst ⊢
      exact .inl (wp_of_loc hst hnext)
    · rw [if_neg hw] at hst ⊢
      exact hnext undef w (Below.refl _ _) hst

/-- The rule: a region that draws its order; its last operations come one after the other, behind all others. -/
theorem wp_region_tail {id : Nat} {Q : Exit → Act → World → Prop} {a0 : Act} {w : World} {ops : Array Oper} (l t : List Oper) {ol : Oper} {fr : (Nat → Value) → Act} (hops : ops = (l ++ ol :: t).toArray) (hm : P.follows .mixedOrders = true)
    (hd : dstsOk a0.tmps.size l.toArray = true) (hl : lexOk (l ++ ol :: t).toArray = true) (hcov : coverN l.length (l ++ ol :: t).toArray = true) (hrow : rowOk l.length (l ++ ol :: t).toArray = true) (hfr : ∀ xs, fill 0 l a0 xs = fr xs)
    (h : wpLoc P (l ++ ol :: t).toArray w fr (wpSeq P (l ++ ol :: t).toArray Q (ol :: t)) l []) : (Code.region id ops true).wp P Q a0 w := by
  subst hops
  obtain ⟨fs, hfl, hmono, hstep, hend⟩ := facts_of_wpLoc l [] h
  simp only [dstsOk, Bool.and_eq_true, List.all_eq_true, decide_eq_true_eq] at hd
  refine wp_region_any hm ?_
  have hd2 : ∀ o ∈ l, ∃ d, o.dst = some d ∧ d < a0.tmps.size := fun o ho => by
    have := hd.1 o ho
    cases hod : o.dst with
    | none => rw [hod] at this; simp at this
    | some d => rw [hod] at this; exact ⟨d, rfl, by simpa using this⟩
  have hself : ∃ xs, fill 0 l a0 xs = a0 := by
    refine ⟨fun j => ((l[j]?).bind (·.dst)).elim undef fun d => a0.tmps.getD d undef, ?_⟩
    have : ∀ (l' : List Oper) (k : Nat) (ys : Nat → Value), (∀ o ∈ l', ∃ d, o.dst = some d ∧ d < a0.tmps.size) → (∀ j o, l'[j]? = some o → ys (k + j) = o.dst.elim undef fun d => a0.tmps.getD d undef) → fill k l' a0 ys = a0 := by
      intro l'
      induction l' with
      | nil => intros; rfl
      | cons o l' ih =>
        intro k ys h1 h2
        obtain ⟨d, hod, hdl⟩ := h1 o (by simp)
        have hk := h2 0 o rfl
        simp only [fill]
        have hp : a0.put o.dst (ys k) = a0 := by
          rw [Nat.add_zero] at hk
          rw [hk, hod]
          simp only [Act.put, Option.elim_some]
          have : a0.tmps.setIfInBounds d (a0.tmps.getD d undef) = a0.tmps := by
            apply Array.ext_getElem?
            intro i
            rw [Array.getElem?_setIfInBounds]
            by_cases hi : d = i
            · subst hi
              simp [hdl]
            · rw [if_neg hi]
          rw [this]
        rw [hp]
        exact ih (k + 1) ys (fun o ho => h1 o (by simp [ho])) fun j o hj => by
          have := h2 (j + 1) o (by simpa using hj)
          rwa [show k + (j + 1) = k + 1 + j by omega] at this
    exact this l 0 _ hd2 fun j o hj => by simp [hj]
  obtain ⟨xs, hxs⟩ := hself
  have hB : Below w.heap.size w { w with drawn := w.drawn + 1 } := ⟨rfl, rfl, rfl, Nat.le_refl _, fun _ _ => rfl⟩
  have := loc_any_tail (P := P) (ops := (l ++ ol :: t).toArray) (l := l) (ol := ol) (t := t) (by simp) (w0 := w) (a0 := a0) (Q := Q) (fs := fs) hd.2 (fun o ho => by obtain ⟨d, h, _⟩ := hd2 o ho; exact ⟨d, h⟩)
    (fun j o ho e he hb => by
      have h1 := List.all_eq_true.1 hl j (List.mem_range.2 (Array.getElem?_eq_some_iff.1 ho).1)
      rw [ho] at h1
      have h2 := List.all_eq_true.1 h1 e he
      simpa [hb] using h2)
    hcov hrow hfl hmono
    (fun j o f ho hf xs w' hb he => by
      have := hstep j o f ho hf xs w' hb (by simpa using he)
      rw [← hfr] at this
      exact this)
    (fun xs w' hb hf => by rw [hfr]; exact hend xs w' hb (by simpa using hf))
    (l ++ ol :: t).toArray.size (Array.replicate (l ++ ol :: t).toArray.size false) xs _ (by simp) (by
      rw [List.countP_eq_length.2]
      · simp
      · intro j hj
        have : j < l.length + (t.length + 1) := by simpa using hj
        simp [this]) (fun j o hj hl => by
      exfalso
      have : j < l.length + (t.length + 1) := by simpa using (Array.getElem?_eq_some_iff.1 hj).1
      simp [this] at hl) (fun j _ hj => by
      have : j < l.length + (t.length + 1) := by simpa using hj
      simp [this]) hB (fun j f hj hl => by
      exfalso
      have : j < l.length := by rw [← hfl]; exact (List.getElem?_eq_some_iff.1 hj).1
      have : j < l.length + (t.length + 1) := by omega
      simp [this] at hl)
  rw [hxs] at this
  exact this
end
end Go.Proofs.YtgabpbnndikheaaGreatDoor

/-! Small lemmas over the kinds' words, of no program. -/
namespace Go.Proofs.YtgabpbnndikheaaGreatDoor
open Go.RowKit Go.Proofs.YtgabpbnndikheaaGreatDoorW.PrintWords

/-- An element of a slice of one-cell elements. -/
theorem C1_at {α : Type} {enc : α → Value} {h1 : ∀ x, (enc x).oneCell' = true} {w : World} {A : Option Addr} {n : Nat} {xs : List α} (h : (Kd.scalar enc h1).C w A n xs) {i : Nat} (hi : i < xs.length) :
    ∃ ad, A = some ad ∧ w.cell? (ad.add i) = some (enc xs[i]) := by
  obtain ⟨ad, e, hc⟩ := h.2.2 (by have := h.1; omega)
  obtain ⟨c, hl, hK, hcell⟩ := hc i _ (List.getElem?_eq_getElem hi)
  have hK' : c = [enc xs[i]] := hK
  subst hK'
  have := hcell 0 _ rfl
  exact ⟨ad, e, by simpa [Kd.scalar] using this⟩
theorem addr_add (ad : Addr) (i j : Nat) : (ad.add i).add j = ad.add (i + j) := by
  unfold Addr.add
  by_cases hi : i = 0 <;> by_cases hj : j = 0 <;> simp [hi, hj, Nat.add_assoc]
theorem addr_pos (ad : Addr) {m : Nat} (h : 0 < m) : (⟨ad.block, ad.off + m, none⟩ : Addr) = ad.add m := by
  unfold Addr.add
  rw [if_neg (by omega)]
/-- 's[k:]' of a slice that is read. -/
theorem C_drop {α : Type} {d : Kd α} {w : World} {ad : Addr} {n : Nat} {xs : List α} (h : d.C w (some ad) n xs) (k : Nat) : d.C w (some (ad.add (k * d.sz))) (n - k) (xs.drop k) := by
  refine ⟨by rw [List.length_drop, h.1], by have := h.2.1; omega, fun hn => ⟨_, rfl, fun j p hj => ?_⟩⟩
  obtain ⟨ad', e, hc⟩ := h.2.2 (by omega)
  injection e with e
  subst e
  rw [List.getElem?_drop] at hj
  obtain ⟨c, hl, hK, hcell⟩ := hc _ p hj
  refine ⟨c, hl, hK, fun i u hu => ?_⟩
  rw [addr_add, ← Nat.add_assoc, ← Nat.add_mul]
  exact hcell i u hu
theorem C_drop1 {α : Type} {enc : α → Value} {h1 : ∀ x, (enc x).oneCell' = true} {w : World} {ad : Addr} {n : Nat} {xs : List α} (h : (Kd.scalar enc h1).C w (some ad) n xs) (k : Nat) : (Kd.scalar enc h1).C w (some (ad.add k)) (n - k) (xs.drop k) := by
  have := C_drop h k
  rwa [show k * (Kd.scalar enc h1).sz = k from Nat.mul_one k] at this
theorem C_zero {α : Type} {d : Kd α} (w : World) (A : Option Addr) : d.C w A 0 [] := ⟨rfl, by omega, fun h => absurd h (by omega)⟩
theorem below_alloc' {w W : World} (h : Below w.heap.size w W) (o : Obj) : Below w.heap.size w (W.alloc o) := h.alloc h.size o
theorem C_below' {α : Type} {d : Kd α} {B : Nat} {w w1 : World} {A : Option Addr} {n : Nat} {xs : List α} (h : d.C w A n xs) (hB : w.heap.size ≤ B) (hb : Below B w w1) : d.C w1 A n xs := Kd.C_below h (hb.mono hB)

theorem ba_get (s : ByteArray) (k : Nat) (h : k < s.size) : s.data.toList[k]'(by simpa using h) = s[k] := rfl

/-- A byte of a []byte. -/
def kby : Kd UInt8 := Kd.scalar (fun b => .int .u8 (b.toNat : Int)) (fun _ => rfl)

theorem R_lit0 {α : Type} {d : Kd α} {W : World} {e base : Nat} {ok : Nat → Prop} (hb : base ≤ W.heap.size) (hok : ok W.heap.size) : d.R e (W.alloc (.cells #[] e)) base ok (.slice (some ⟨W.heap.size, 0, none⟩) 0 0) [] := by
  refine ⟨fun k hk => ?_, [], ?_, Reps.none _ _⟩
  · obtain rfl : W.heap.size = k := by simpa [Value.ownBlock] using hk
    exact hok
  · simpa using World.ownsRow_made (base := base) (e := e) (size := d.sz) W #[] 0 hb (by simp [maxLen]) (by simp)

theorem kby_reads {w : World} {A : Option Addr} {n : Nat} {bs : List UInt8} (h : kby.C w A n bs) : ReadsInt w .u8 A n (bs.map fun b => (b.toNat : Int)) := by
  refine ⟨by rw [List.length_map]; exact h.1, h.2.1, fun hn => ?_⟩
  have hl := h.1
  obtain ⟨ad, e, _⟩ := h.2.2 hn
  refine ⟨ad, e, fun j hj => ?_⟩
  obtain ⟨ad', e', hc⟩ := C1_at h (i := j) (by omega)
  rw [e] at e'
  injection e' with e'
  subst e'
  rw [hc]
  simp [List.getD_eq_getElem?_getD, List.getElem?_eq_getElem (show j < bs.length by omega)]
theorem str_of_bytes (bs : List UInt8) : strOfNums (bs.map fun b => (b.toNat : Int)) = ⟨bs.toArray⟩ := by
  unfold strOfNums
  rw [List.map_map]
  have : ((fun n : Int => UInt8.ofNat n.toNat) ∘ fun b : UInt8 => (b.toNat : Int)) = id := by funext b; simp
  rw [this, List.map_id]
theorem conv_bytes {P : Program} {src dst e : TypeId} (hs : P.underlying src = some (.slice e)) (he : P.underlying e = some (.int .u8)) (hd : P.underlying dst = some .string)
    {w : World} {A : Option Addr} {n c : Nat} {bs : List UInt8} (h : kby.C w A n bs) : (convert src dst (.slice A n c)).run P w = .ok (.string ⟨bs.toArray⟩) w := by
  rw [← str_of_bytes]
  exact string_of_reads hs he hd (kby_reads h)
theorem kby_new (W : World) (b : UInt8) (e : TypeId) : kby.C (W.alloc (.cells #[.int .u8 (b.toNat : Int)] e)) (some ⟨W.heap.size, 0, none⟩) 1 [b] := by
  refine ⟨rfl, by omega, fun _ => ⟨_, rfl, fun j p hj => ?_⟩⟩
  obtain rfl : j = 0 := by
    have := (List.getElem?_eq_some_iff.1 hj).1
    simp at this; exact this
  simp at hj; subst hj
  refine ⟨[.int .u8 (b.toNat : Int)], rfl, rfl, fun i u hu => ?_⟩
  obtain rfl : i = 0 := by
    have := (List.getElem?_eq_some_iff.1 hu).1
    simp at this; exact this
  simp at hu; subst hu
  have := World.news_of_block (cs := #[Value.int .u8 (b.toNat : Int)]) (t := e) (fr := (0, 0)) (heap_alloc_new W _) 0 _ rfl
  simpa [kby, Kd.scalar] using this

section
variable {P : Program} {ops : Array Oper} {rest : List Oper} {o : Oper} {a : Act} {Q : Exit → Act → World → Prop}
/-- append of one element of one cell onto a row of the call's own. -/
theorem app1 {α : Type} (enc : α → Value) {h1 : ∀ x, (enc x).oneCell' = true} {w0 W : World} (base : Nat) (hgd : o.guard = none) (s x : Operand) (t e : TypeId) (z : Value) (bytes : Nat)
    (ho : o.op = .call { callee := .builtin .append, args := #[s, x], argTypes := #[t, t] })
    (ht : P.underlying t = some (.slice e)) (hinfo : (P.info? e).map (fun i => (i.zero, i.size, i.bytes)) = some (some z, 1, bytes)) (hz : z.cells.size = 1) (hb0 : 0 < bytes)
    (v : Value) (xs : List α) (p : α) (u : Value) (hs : a.eval s = v) (hx : a.eval x = .slice (some ⟨W.heap.size, 0, none⟩) 1 1) (hu : u = enc p)
    (HO : Aside0 ((Kd.scalar enc h1).R e W base (fun _ => True) v xs)) (HB : Aside0 (Below base w0 W)) (hbase : base ≤ w0.heap.size) (hl : (xs.length + 1) * bytes ≤ 140737488355328)
    (h : ∀ v1 w1, Aside0 ((Kd.scalar enc h1).R e w1 base (fun _ => True) v1 (xs ++ [p])) → Aside0 (Below base w0 w1) → wpList P ops Q rest (a.put o.dst v1) w1) :
    wpList P ops Q (o :: rest) a (W.alloc (.cells #[u] e)) := by
  subst hu
  obtain ⟨HO⟩ := HO
  obtain ⟨HB⟩ := HB
  have hbw : base ≤ W.heap.size := Nat.le_trans hbase HB.size
  have hR := Kd.R_mono (Kd.R_bound HO) (ok' := fun k => True ∧ k < W.heap.size) (fun k hk => ⟨trivial, hk.2.2.1⟩)
  exact Kd.R_append (Kd.scalar enc h1) base hgd s x t e z bytes ho ht hinfo hz (by show 0 < 1; omega) hb0 v xs p [enc p] (fun _ => True) (fun _ => False) hs hx rfl (fun _ h => h.elim) (fun _ _ => trivial) HO HB hbw hl (fun v1 w1 hr hb _ _ => h v1 w1 ⟨hr⟩ ⟨hb⟩)
end

theorem R_C {α : Type} {d : Kd α} {e : Nat} {w : World} {base : Nat} {ok : Nat → Prop} {v : Value} {xs : List α} (h : d.R e w base ok v xs) : ∃ A c, v = .slice A xs.length c ∧ xs.length ≤ c ∧ d.C w A xs.length xs := Kd.R_reads h

theorem C_dropO {α : Type} {enc : α → Value} {h1 : ∀ x, (enc x).oneCell' = true} {w : World} {A : Option Addr} {n : Nat} {xs : List α} (h : (Kd.scalar enc h1).C w A n xs) (k : Nat) : (Kd.scalar enc h1).C w (A.map (fun x => x.add k)) (n - k) (xs.drop k) := by
  cases A with
  | some ad => exact C_drop1 h k
  | none =>
    have h0 : n = 0 := by
      rcases Nat.eq_zero_or_pos n with h0 | h0
      · exact h0
      · obtain ⟨ad, e, _⟩ := h.2.2 h0
        cases e
    have hx : xs = [] := List.eq_nil_of_length_eq_zero (h.1.trans h0)
    subst h0 hx
    simp only [List.drop_nil, Nat.zero_sub]
    exact C_zero _ _

theorem C_take {α : Type} {d : Kd α} {w : World} {A : Option Addr} {n : Nat} {xs : List α} (h : d.C w A n xs) {m : Nat} (hm : m ≤ n) : d.C w A m (xs.take m) := by
  have h1 := h.1
  refine ⟨by rw [List.length_take]; omega, by have := h.2.1; omega, fun hp => ?_⟩
  obtain ⟨ad, e, hc⟩ := h.2.2 (by omega)
  refine ⟨ad, e, fun j p hj => hc j p ?_⟩
  rw [List.getElem?_take] at hj
  split at hj
  · exact hj
  · cases hj

end Go.Proofs.YtgabpbnndikheaaGreatDoor

set_option linter.constructorNameAsVariable false
/-! Points. -/
namespace Go.Proofs.YtgabpbnndikheaaGreatDoor
open Go.RowKit Go.Proofs.YtgabpbnndikheaaGreatDoorW.PrintWords
theorem greater_two (k k' : IntKind) (m n : Int) : Builtin.max2 (.int k m) (.int k' n) = pure (.int k (if m < n then n else m)) := by
  unfold Builtin.max2
  rfl
theorem lesser_two (k k' : IntKind) (m n : Int) : Builtin.min2 (.int k m) (.int k' n) = pure (.int k (if n < m then n else m)) := by
  unfold Builtin.min2
  rfl
theorem greater_of (ts : Array TypeId) (t : TypeId) (u v : Value) : Builtin.max_ ts t #[u, v] = (do let s ← Builtin.max2 u v; pure s) := by
  simp [Builtin.max_]
theorem lesser_of (ts : Array TypeId) (t : TypeId) (u v : Value) : Builtin.min_ ts t #[u, v] = (do let s ← Builtin.min2 u v; pure s) := by
  simp [Builtin.min_]
attribute [local go_sem] greater_two lesser_two greater_of lesser_of

structure Pt where
  x : Int
  y : Int
  deriving DecidableEq
def Pt.v (p : Pt) : Value := .agg #[.int .i64 p.x, .int .i64 p.y]
/-- limit(n, 1048576). -/
def lim (n : Int) : Int := if n < -1048576 then -1048576 else if 1048576 < n then 1048576 else n
theorem lim_le (n : Int) : -1048576 ≤ lim n ∧ lim n ≤ 1048576 := by unfold lim; split <;> (try split) <;> omega

theorem i64_ret {k : IntKind} {a b : Int} (h : a = b) : Ending.returned (.int k a) = .returned (.int k b) := by rw [h]
theorem limit_any (n : Int) (w : World) :
    Calls Tryz.prog 78 #[.int .i64 n, .int .i64 1048576] w fun e w' => e = .returned (.int .i64 (lim n)) ∧ w = w' := by
  go_enter Tryz.func78, Tryz.ntmps78
  go_wp2
  all_goals
    go_ret
    exact ⟨i64_ret (by unfold lim; split at * <;> (try split) <;> (try split) <;> omega), rfl⟩
def Pt.clamp (p : Pt) : Pt := ⟨lim p.x, lim p.y⟩
def BoxP (w : World) (g : Nat) (p : Pt) : Prop := w.heap[g]? = some (.cells #[.int .i64 p.x, .int .i64 p.y] 42 (0, 0))
theorem BoxP.lt {w : World} {g : Nat} {x : Pt} (h : BoxP w g x) : g < w.heap.size := by
  unfold BoxP at h
  exact (Array.getElem?_eq_some_iff.1 h).1
theorem BoxP.keep {w w' : World} {g : Nat} {x : Pt} (h : BoxP w g x) (hb : Below w.heap.size w w') : BoxP w' g x := (hb.block g h.lt).trans h
theorem BoxP.cs {w : World} {g : Nat} {x : Pt} (h : BoxP w g x) : w.cell? ⟨g, 0, none⟩ = some (.int .i64 x.x) ∧ w.cell? ⟨g, 1, none⟩ = some (.int .i64 x.y) := by unfold BoxP at h; simp [World.cell?, h]
theorem BoxP.fr {w : World} {g : Nat} {x : Pt} (h : BoxP w g x) (i : Nat) : w.frozen? ⟨g, i, none⟩ = false := by unfold BoxP at h; simp [World.frozen?, h]
theorem boxP_alloc (w : World) (x : Pt) : BoxP (w.alloc (.cells #[.int .i64 x.x, .int .i64 x.y] 42)) w.heap.size x := heap_alloc_new w _
theorem boxP1 {P : Program} {c : Code} {Q : Exit → Act → World → Prop} {a : Act} {w : World} {m n : Int}
    (h : ∀ w0, Aside0 (Below w.heap.size w w0) → Aside0 (BoxP w0 w.heap.size ⟨m, n⟩) → c.wp P Q a w0) : c.wp P Q a (w.alloc (.cells #[.int .i64 m, .int .i64 n] 42)) :=
  h _ ⟨below_alloc' (Below.refl _ _) _⟩ ⟨heap_alloc_new w _⟩
theorem boxP2 {P : Program} {c : Code} {Q : Exit → Act → World → Prop} {a : Act} {w : World} {m n m' n' : Int}
    (h : ∀ w0, Aside0 (Below w.heap.size w w0) → Aside0 (BoxP w0 w.heap.size ⟨m, n⟩) → Aside0 (BoxP w0 (w.heap.size + 1) ⟨m', n'⟩) → c.wp P Q a w0) :
    c.wp P Q a ((w.alloc (.cells #[.int .i64 m, .int .i64 n] 42)).alloc (.cells #[.int .i64 m', .int .i64 n'] 42)) := by
  refine h _ ⟨below_alloc' (below_alloc' (Below.refl _ _) _) _⟩ ⟨BoxP.keep (x := ⟨m, n⟩) (heap_alloc_new w _) (below_alloc' (Below.refl _ _) _)⟩ ⟨?_⟩
  have := heap_alloc_new (w.alloc (.cells #[.int .i64 m, .int .i64 n] 42)) (.cells #[.int .i64 m', .int .i64 n'] 42)
  rw [World.size_alloc] at this
  exact this
def set2 (w : World) (g : Nat) (m n : Int) : World := (w.setCell ⟨g, 0, none⟩ (.int .i64 m)).setCell ⟨g, 1, none⟩ (.int .i64 n)
theorem BoxP.set {w : World} {g : Nat} {x : Pt} (h : BoxP w g x) (m n : Int) : BoxP (set2 w g m n) g ⟨m, n⟩ := by
  unfold BoxP set2 at *
  simp [World.setCell, Array.getElem?_modify, h]
theorem BoxP.far {w : World} {g g' : Nat} {x : Pt} (h : BoxP w g x) (hg : g ≠ g') (m n : Int) : BoxP (set2 w g' m n) g x := by
  unfold BoxP set2 at *
  rw [Below.heap_setCell _ _ _ _ hg, Below.heap_setCell _ _ _ _ hg]
  exact h
theorem below_set2 {B : Nat} {w0 w : World} (h : Below B w0 w) {g : Nat} (hg : B ≤ g) (m n : Int) : Below B w0 (set2 w g m n) := by
  unfold set2
  exact (h.setCell hg _).setCell hg _
set_option maxRecDepth 100000 in
theorem clamp_any (p : Pt) (w : World) :
    Calls Tryz.prog 63 #[p.v] w fun e w' => e = .returned p.clamp.v ∧ Below w.heap.size w w' := by
  obtain ⟨x, y⟩ := p
  unfold Pt.v
  go_enter Tryz.func63, Tryz.ntmps63
  go_wp2_with fail
  refine boxP2 fun w0 HB0 HX HY => ?_
  refine wp_region_last' [_, _, _, _, _, _, _] rfl (by kernel_rfl) (by kernel_rfl) (by kernel_rfl) (by kernel_rfl) (fun xs => by simp only [fill, Act.put, List.setIfInBounds_toArray, List.set_cons_zero, List.set_cons_succ, Nat.reduceAdd]; rfl) ?_
  repeat (apply wpLoc_det; · (intro vs W hb he; obtain ⟨k1, k2⟩ := (HX.out.keep hb).cs; simp only at k1 k2; simp [edgeSat, Region.binds, Fact.at_] at he; unfold locRun; go_simp; first | exact loc_val | (with_reducible exact loc_call_same (limit_any _ W))))
  refine wpLoc_nil fun vs W hb he => ?_
  simp only [List.nil_append, List.cons_append, factsAll, Fact.at_, Nat.reduceAdd] at he
  obtain ⟨-, -, -, -, -, -, e6, -⟩ := he
  have HY2 := HY.out.keep hb
  obtain ⟨k3, k4⟩ := HY2.cs
  have k5 := HY2.fr
  simp only at k3 k4
  rw [if_pos (by rfl), e6]
  go_wp2
  have hS := HY2.set (lim x) (lim y)
  have hB := below_set2 (B := w.heap.size) (HB0.out.trans (hb.mono HB0.out.size)) (g := w.heap.size + 1) (by omega) (lim x) (lim y)
  unfold set2 at hS hB
  obtain ⟨r1, r2⟩ := hS.cs
  simp only at r1 r2
  refine bodyPost_ret (v := Pt.v ⟨lim x, lim y⟩) (by simp [results, Tryz.results63, go_sem, *]; rfl) rfl ⟨rfl, hB⟩
end Go.Proofs.YtgabpbnndikheaaGreatDoor

set_option linter.constructorNameAsVariable false
/-! Vectors. -/
namespace Go.Proofs.YtgabpbnndikheaaGreatDoor
open Go.RowKit Go.Proofs.YtgabpbnndikheaaGreatDoorW.PrintWords

def way (a b : Pt) : Pt := ⟨lim b.x - lim a.x, lim b.y - lim a.y⟩
theorem wrap64_id {n : Int} (h0 : -9223372036854775808 ≤ n) (h1 : n ≤ 9223372036854775807) : wrap64 n = n := by unfold wrap64; omega
theorem boxP3 {P : Program} {c : Code} {Q : Exit → Act → World → Prop} {a : Act} {w : World} {m n m' n' m2 n2 : Int}
    (h : ∀ w0, Aside0 (Below w.heap.size w w0) → Aside0 (BoxP w0 w.heap.size ⟨m, n⟩) → Aside0 (BoxP w0 (w.heap.size + 1) ⟨m', n'⟩) → Aside0 (BoxP w0 (w.heap.size + 1 + 1) ⟨m2, n2⟩) → c.wp P Q a w0) :
    c.wp P Q a (((w.alloc (.cells #[.int .i64 m, .int .i64 n] 42)).alloc (.cells #[.int .i64 m', .int .i64 n'] 42)).alloc (.cells #[.int .i64 m2, .int .i64 n2] 42)) := by
  have h1 := boxP_alloc w ⟨m, n⟩
  have h2 := boxP_alloc (w.alloc (.cells #[.int .i64 m, .int .i64 n] 42)) ⟨m', n'⟩
  have h3 := boxP_alloc ((w.alloc (.cells #[.int .i64 m, .int .i64 n] 42)).alloc (.cells #[.int .i64 m', .int .i64 n'] 42)) ⟨m2, n2⟩
  simp only [World.size_alloc] at h2 h3
  have b1 := below_alloc' (Below.refl _ (w.alloc (.cells #[.int .i64 m, .int .i64 n] 42))) (.cells #[.int .i64 m', .int .i64 n'] 42)
  have b2 := below_alloc' (Below.refl _ ((w.alloc (.cells #[.int .i64 m, .int .i64 n] 42)).alloc (.cells #[.int .i64 m', .int .i64 n'] 42))) (.cells #[.int .i64 m2, .int .i64 n2] 42)
  exact h _ ⟨below_alloc' (below_alloc' (below_alloc' (Below.refl _ _) _) _) _⟩ ⟨(h1.keep b1).keep b2⟩ ⟨h2.keep b2⟩ ⟨h3⟩
set_option maxRecDepth 100000 in
theorem way_any (p q : Pt) (w : World) :
    Calls Tryz.prog 132 #[p.v, q.v] w fun e w' => e = .returned (way p q).v ∧ Below w.heap.size w w' := by
  obtain ⟨x, y⟩ := p
  obtain ⟨x', y'⟩ := q
  have c1 := fun W => clamp_any ⟨x, y⟩ W
  have c2 := fun W => clamp_any ⟨x', y'⟩ W
  unfold Pt.v Pt.clamp at *
  simp only at c1 c2
  have C1 := Aside0.mk c1
  have C2 := Aside0.mk c2
  clear c1 c2
  go_enter Tryz.func132, Tryz.ntmps132
  go_wp2_with fail
  refine boxP3 fun w0 HB0 HX HY HZ => ?_
  refine wp_region_tail [_, _, _, _] [_] rfl (by kernel_rfl) (by kernel_rfl) (by kernel_rfl) (by kernel_rfl) (by kernel_rfl) (fun xs => by simp only [fill, Act.put, List.setIfInBounds_toArray, List.set_cons_zero, List.set_cons_succ, Nat.reduceAdd]; rfl) ?_
  repeat (apply wpLoc_det; · (intro vs W hb he; obtain ⟨k1, k2⟩ := (HX.out.keep hb).cs; obtain ⟨k3, k4⟩ := (HY.out.keep hb).cs; simp only at k1 k2 k3 k4; simp [edgeSat, Region.binds, Fact.at_] at he; unfold locRun; go_simp; first | exact loc_val | (with_reducible exact loc_call (C1.out W)) | (with_reducible exact loc_call (C2.out W))))
  refine wpLoc_nil fun vs W hb he => ?_
  simp only [List.nil_append, List.cons_append, factsAll, Fact.at_, Nat.reduceAdd] at he
  obtain ⟨-, e1, -, e3, -⟩ := he
  have HX2 := HX.out.keep hb
  obtain ⟨k1, k2⟩ := HX2.cs
  have k5 := HX2.fr
  have HY2 := HY.out.keep hb
  obtain ⟨k3, k4⟩ := HY2.cs
  have k6 := HY2.fr
  simp only at k1 k2 k3 k4
  rw [e1, e3]
  unfold wpSeq
  rw [if_pos (by rfl)]
  go_wp2
  obtain ⟨W1, e1⟩ : ∃ W1, W1 = set2 W w.heap.size (lim x) (lim y) := ⟨_, rfl⟩
  have HX3 := Aside0.mk (e1 ▸ HX2.set (lim x) (lim y) : BoxP W1 w.heap.size ⟨lim x, lim y⟩)
  have HY3 := Aside0.mk (e1 ▸ HY2.far (by omega) (lim x) (lim y) : BoxP W1 (w.heap.size + 1) ⟨x', y'⟩)
  have HZ3 := Aside0.mk (e1 ▸ (HZ.out.keep hb).far (by omega) (lim x) (lim y) : BoxP W1 (w.heap.size + 1 + 1) ⟨0, 0⟩)
  have HB1 := Aside0.mk (e1 ▸ below_set2 (HB0.out.trans (hb.mono HB0.out.size)) (Nat.le_refl _) (lim x) (lim y) : Below w.heap.size w W1)
  unfold set2 at e1
  rw [← e1]
  clear k1 k2 k3 k4 k5 k6 HX2 HY2 HX HY HZ HB0 hb e1
  obtain ⟨k3, k4⟩ := HY3.out.cs
  have k6 := HY3.out.fr
  simp only at k3 k4
  unfold wpSeq
  rw [if_pos (by rfl)]
  go_wp2
  obtain ⟨W2, e2⟩ : ∃ W2, W2 = set2 W1 (w.heap.size + 1) (lim x') (lim y') := ⟨_, rfl⟩
  have HX4 := Aside0.mk (e2 ▸ HX3.out.far (by omega) (lim x') (lim y') : BoxP W2 w.heap.size ⟨lim x, lim y⟩)
  have HY4 := Aside0.mk (e2 ▸ HY3.out.set (lim x') (lim y') : BoxP W2 (w.heap.size + 1) ⟨lim x', lim y'⟩)
  have HZ4 := Aside0.mk (e2 ▸ HZ3.out.far (by omega) (lim x') (lim y') : BoxP W2 (w.heap.size + 1 + 1) ⟨0, 0⟩)
  have HB2 := Aside0.mk (e2 ▸ below_set2 HB1.out (by omega) (lim x') (lim y') : Below w.heap.size w W2)
  unfold set2 at e2
  rw [← e2]
  clear k3 k4 k6 HX3 HY3 HZ3 HB1 e2
  obtain ⟨k1, k2⟩ := HX4.out.cs
  obtain ⟨k3, k4⟩ := HY4.out.cs
  obtain ⟨k5, k6⟩ := HZ4.out.cs
  have k7 := HZ4.out.fr
  simp only at k1 k2 k3 k4 k5 k6
  have b1 := lim_le x
  have b2 := lim_le y
  have b3 := lim_le x'
  have b4 := lim_le y'
  have v1 : wrap64 (lim x' - lim x) = lim x' - lim x := wrap64_id (by omega) (by omega)
  have v2 : wrap64 (lim y' - lim y) = lim y' - lim y := wrap64_id (by omega) (by omega)
  clear b1 b2 b3 b4
  unfold wpSeq
  go_wp2
  have hS := HZ4.out.set (lim x' - lim x) (lim y' - lim y)
  have hB := below_set2 HB2.out (g := w.heap.size + 1 + 1) (by omega) (lim x' - lim x) (lim y' - lim y)
  unfold set2 at hS hB
  obtain ⟨r1, r2⟩ := hS.cs
  simp only at r1 r2
  refine bodyPost_ret (v := Pt.v ⟨lim x' - lim x, lim y' - lim y⟩) (by simp [results, Tryz.results132, go_sem, *]; rfl) rfl ⟨rfl, hB⟩
end Go.Proofs.YtgabpbnndikheaaGreatDoor

/-! A region that draws its order, makes new blocks among its first operations, and ends in operations that come one after the other. -/
namespace Go.Proofs.YtgabpbnndikheaaGreatDoor
open Go.RowKit
section
variable {P : Program}

/-- The value is a new block's address. -/
def Born (w : World) (u : Value) (w' : World) : Prop := ∃ g, u = .pointer (some ⟨g, 0, none⟩) ∧ w.heap.size ≤ g ∧ g < w'.heap.size
def Apart (nws : List Nat) (xs : Nat → Value) : Prop := ∀ i ∈ nws, ∀ j ∈ nws, i ≠ j → xs i ≠ xs j
theorem loc_any_new {ops : Array Oper} {l t : List Oper} {ol : Oper} (hops : ops.toList = l ++ ol :: t) {w0 : World} {a0 : Act} {Q : Exit → Act → World → Prop} {fs : List Fact} (nws : List Nat) (hn : (l.map (·.dst)).Nodup) (hd : ∀ o ∈ l, ∃ d, o.dst = some d)
    (hlex : ∀ (j : Nat) (o : Oper), ops[j]? = some o → ∀ e ∈ o.after.toList, Region.binds .any e = true → e.on < j) (hcov : coverN l.length ops = true) (hrow : rowOk l.length ops = true) (hfl : fs.length = l.length) (hmono : ∀ f ∈ fs, f.mono)
    (hstep : ∀ (j : Nat) (o : Oper) (f : Fact), l[j]? = some o → fs[j]? = some f → ∀ xs w, Below w0.heap.size w0 w → edgeSat (fs.take j) xs w o.after.toList → if j ∈ nws then Region.wanted o (yielded ops (fill 0 l a0 xs).tmps) = true ∧ locRun P o (fill 0 l a0 xs) w (.fresh fun u w' => f.at_ u w' ∧ Born w u w') else if Region.wanted o (yielded ops (fill 0 l a0 xs).tmps) then locRun P o (fill 0 l a0 xs) w f else f.at_ undef w)
    (hnl : ∀ i ∈ nws, i < l.length) (hend : ∀ xs w, Below w0.heap.size w0 w → factsAll xs w 0 fs → Apart nws xs → wpSeq P ops Q (ol :: t) (fill 0 l a0 xs) w) :
    ∀ (fuel : Nat) (listed : Array Bool) (xs : Nat → Value) (w : World), listed.size = ops.size → (List.range ops.size).countP (fun j => listed.getD j true == false) = fuel → closed ops listed → (∀ j, l.length ≤ j → j < ops.size → listed.getD j true = false) → Below w0.heap.size w0 w →
      (∀ (j : Nat) (f : Fact), fs[j]? = some f → listed.getD j false = true → f.at_ (xs j) w) → (∀ i ∈ nws, listed.getD i false = true → ∃ g, xs i = .pointer (some ⟨g, 0, none⟩) ∧ g < w.heap.size) → (∀ i ∈ nws, ∀ j ∈ nws, i ≠ j → listed.getD i false = true → listed.getD j false = true → xs i ≠ xs j) → wpAny P .any ops Q fuel listed (fill 0 l a0 xs) w := by
  have hsize : ops.size = l.length + (t.length + 1) := by rw [← Array.length_toList, hops]; simp
  have hat : ∀ j, ops[j]? = (l ++ ol :: t)[j]? := fun j => by rw [← hops, Array.getElem?_toList]
  have htail : ops.toList.drop l.length = ol :: t := by rw [hops, List.drop_left]
  intro fuel
  induction fuel with
  | zero =>
    intro listed xs w hsz hc hcl hl0 hb hf hnw hap
    exfalso
    rw [List.countP_eq_zero] at hc
    refine hc l.length (List.mem_range.2 (by omega)) ?_
    rw [hl0 _ (Nat.le_refl _) (by omega)]; rfl
  | succ fuel ih =>
    intro listed xs w hsz hc hcl hl0 hb hf hnw hap
    by_cases hrdy : l.length ∈ Region.ready .any ops listed
    · have hothers := all_of_nth hcov hcl hrdy
      have hfacts : factsAll xs w 0 fs := factsAll_of fs 0 fun j f hj => by
        rw [Nat.zero_add]
        have hjl : j < l.length := by rw [← hfl]; exact (List.getElem?_eq_some_iff.1 hj).1
        exact hf j f hj (hothers j hjl)
      exact tail_any hrow hlex (ol :: t) l.length (fuel + 1) listed _ w htail (Nat.le_refl _) (by omega) hsz hothers hl0 hc (hend xs w hb hfacts fun i hi j hj hij => hap i hi j hj hij (hothers i (hnl i hi)) (hothers j (hnl j hj)))
    refine ⟨fun hr => ?_, fun i hi => ?_⟩
    · exfalso
      have hall : ∀ j, j < ops.size → listed.getD j false = true := by
        intro j
        induction j using Nat.strongRecOn with
        | _ j ihj =>
          intro hj
          cases hcj : listed.getD j false with
          | true => rfl
          | false =>
            exfalso
            have hmem : j ∈ Region.ready .any ops listed := by
              rw [mem_ready]
              refine ⟨?_, ops[j], Array.getElem?_eq_getElem hj, fun e he hbd => ?_⟩
              · have hjl : j < listed.size := by omega
                simp only [Array.getD_eq_getD_getElem?, Array.getElem?_eq_getElem hjl, Option.getD_some] at hcj ⊢
                exact hcj
              · have := hlex j _ (Array.getElem?_eq_getElem hj) e (Array.mem_toList_iff.2 he) hbd
                exact ihj _ this (by omega)
            rw [hr] at hmem
            cases hmem
      have h5 := hall l.length (by omega)
      have h6 := hl0 l.length (Nat.le_refl _) (by omega)
      rw [getD_sw (by omega)] at h6
      simp only [Bool.not_true] at h6
      rw [h5] at h6
      cases h6
    have hi' := hi
    rw [mem_ready] at hi'
    obtain ⟨h0, o, ho, hall⟩ := hi'
    have hil : i < ops.size := (Array.getElem?_eq_some_iff.1 ho).1
    have hil' : i < l.length := by
      rcases Nat.lt_trichotomy i l.length with hlt | he | hgt
      · exact hlt
      · subst he; exact absurd hi hrdy
      · exfalso
        obtain ⟨e, he, hb', hon⟩ := row_edge hrow ho hgt
        have h3 := hall e (Array.mem_toList_iff.1 he) hb'
        have h4 := hl0 e.on (by omega) (by omega)
        rw [getD_sw (by omega)] at h4
        simp only [Bool.not_true] at h4
        rw [h3] at h4
        cases h4
    have ho' : l[i]? = some o := by rw [hat, List.getElem?_append_left hil'] at ho; exact ho
    have hfi : i < fs.length := by omega
    have hst := hstep i o fs[i] ho' (List.getElem?_eq_getElem hfi) xs w hb (edgeSat_of _ fun e he hbd f hfe => by
      have hlt := hlex i o ho e he hbd
      rw [List.getElem?_take, if_pos hlt] at hfe
      exact hf _ f hfe (hall e (Array.mem_toList_iff.1 he) hbd))
    have hput : ∀ u, (fill 0 l a0 xs).put o.dst u = fill 0 l a0 (fun j => if j = i then u else xs j) := by
      intro u
      have := fill_put (u := u) (i := i) l 0 a0 xs hn hil' (fun o ho => by obtain ⟨d, hd⟩ := hd o ho; rw [hd]; rfl)
      simp only [Nat.zero_add] at this
      rw [show (l[i]?).bind (·.dst) = o.dst by simp [ho']] at this
      exact this
    have hcs := count_set hsz hil h0
    have hnext : ∀ u w', Below w.heap.size w w' → (fs[i]).at_ u w' → (i ∈ nws → Born w u w') → wpAny P .any ops Q fuel (listed.setIfInBounds i true) ((fill 0 l a0 xs).put o.dst u) w' := by
      intro u w' hbw hfu hborn
      rw [hput]
      refine ih _ _ _ (by simpa using hsz) (by omega) ?_ ?_ (hb.trans (hbw.mono hb.size)) (fun j f hj hl => ?_) (fun j hj hl => ?_) (fun j hj j' hj' hjj hl hl' => ?_)
      · intro j o2 hj hlj e he hbd
        by_cases hei : i = e.on
        · rw [← hei]
          have : i < listed.size := by omega
          simp [this]
        rw [getD_set_ne false hei]
        by_cases hij : i = j
        · subst hij
          rw [ho] at hj
          injection hj with hj
          subst hj
          exact hall e (Array.mem_toList_iff.1 he) hbd
        · rw [getD_set_ne false hij] at hlj
          exact hcl j o2 hj hlj e he hbd
      · intro j hj hjl
        rw [getD_set_ne true (fun e => by omega)]
        exact hl0 j hj hjl
      · by_cases hji : j = i
        · subst hji
          rw [if_pos rfl]
          rw [List.getElem?_eq_getElem hfi] at hj
          injection hj with hj
          rw [← hj]
          exact hfu
        · rw [if_neg hji]
          rw [getD_set_ne false (fun e => hji e.symm)] at hl
          exact Fact.keep (hmono f (List.mem_of_getElem? hj)) hbw (hf j f hj hl)
      · by_cases hji : j = i
        · subst hji
          obtain ⟨g, hg, _, hlt⟩ := hborn hj
          exact ⟨g, by rw [if_pos rfl]; exact hg, hlt⟩
        · rw [getD_set_ne false (fun e => hji e.symm)] at hl
          obtain ⟨g, hg, hlt⟩ := hnw j hj hl
          exact ⟨g, by rw [if_neg hji]; exact hg, Nat.lt_of_lt_of_le hlt hbw.size⟩
      · by_cases hji : j = i
        · subst hji
          obtain ⟨g, hg, hge, _⟩ := hborn hj
          rw [getD_set_ne false hjj] at hl'
          obtain ⟨g', hg', hlt⟩ := hnw j' hj' hl'
          simp only [if_true]
          rw [if_neg (fun e => hjj e.symm), hg, hg']
          intro he
          simp only [Value.pointer.injEq, Option.some.injEq, Addr.mk.injEq, and_true] at he
          omega
        · rw [getD_set_ne false (fun e => hji e.symm)] at hl
          by_cases hji' : j' = i
          · subst hji'
            obtain ⟨g, hg, hge, _⟩ := hborn hj'
            obtain ⟨g', hg', hlt⟩ := hnw j hj hl
            simp only [if_true]
            rw [if_neg hji, hg, hg']
            intro he
            simp only [Value.pointer.injEq, Option.some.injEq, Addr.mk.injEq, and_true] at he
            omega
          · rw [getD_set_ne false (fun e => hji' e.symm)] at hl'
            rw [if_neg hji, if_neg hji']
            exact hap j hj j' hj' hjj hl hl'
    unfold wpOp
    simp only [ho]
    by_cases hin : i ∈ nws
    · rw [if_pos hin] at hst
      rw [if_pos hst.1]
      exact .inl (wp_of_loc hst.2 fun u w' hbw h => hnext u w' hbw h.1 fun _ => h.2)
    rw [if_neg hin] at hst
    by_cases hw : Region.wanted o (yielded ops (fill 0 l a0 xs).tmps) = true
    · rw [if_pos hw] at hst ⊢
      exact .inl (wp_of_loc hst fun u w' hbw h => hnext u w' hbw h fun hi => absurd hi hin)
    · rw [if_neg hw] at hst ⊢
      exact hnext undef w (Below.refl _ _) hst fun hi => absurd hi hin

/-- One operation after the other; the ones that make a new block are told apart. -/
def wpLocN (P : Program) (ops : Array Oper) (w0 : World) (fr : (Nat → Value) → Act) (Q : Act → World → Prop) : List Oper → List Fact → List Nat → Prop
  | [], facts, nws => ∀ xs w, Below w0.heap.size w0 w → factsAll xs w 0 facts → Apart nws xs → Q (fr xs) w
  | o :: rest, facts, nws => ∃ f : Fact, f.mono ∧
      (((∀ xs w, Below w0.heap.size w0 w → edgeSat facts xs w o.after.toList → if Region.wanted o (yielded ops (fr xs).tmps) then locRun P o (fr xs) w f else f.at_ undef w) ∧ wpLocN P ops w0 fr Q rest (facts ++ [f]) nws)
      ∨ ((∀ xs w, Below w0.heap.size w0 w → edgeSat facts xs w o.after.toList → Region.wanted o (yielded ops (fr xs).tmps) = true ∧ locRun P o (fr xs) w (.fresh fun u w' => f.at_ u w' ∧ Born w u w')) ∧ wpLocN P ops w0 fr Q rest (facts ++ [f]) (nws ++ [facts.length])))

theorem wpLocN_nil {ops : Array Oper} {w0 : World} {fr : (Nat → Value) → Act} {Q : Act → World → Prop} {facts : List Fact} {nws : List Nat} (h : ∀ xs w, Below w0.heap.size w0 w → factsAll xs w 0 facts → Apart nws xs → Q (fr xs) w) : wpLocN P ops w0 fr Q [] facts nws := h
theorem wpLocN_det {ops : Array Oper} {w0 : World} {fr : (Nat → Value) → Act} {Q : Act → World → Prop} {facts : List Fact} {nws : List Nat} {o : Oper} {rest : List Oper} (v : Value)
    (h : ∀ xs w, Below w0.heap.size w0 w → edgeSat facts xs w o.after.toList → if Region.wanted o (yielded ops (fr xs).tmps) then locRun P o (fr xs) w (.det v) else v = undef) (hr : wpLocN P ops w0 fr Q rest (facts ++ [.det v]) nws) : wpLocN P ops w0 fr Q (o :: rest) facts nws :=
  ⟨.det v, trivial, .inl ⟨fun xs w hb he => by have := h xs w hb he; split at this <;> simp_all [Fact.at_], hr⟩⟩
theorem wpLocN_fresh {ops : Array Oper} {w0 : World} {fr : (Nat → Value) → Act} {Q : Act → World → Prop} {facts : List Fact} {nws : List Nat} {o : Oper} {rest : List Oper} (f : Value → World → Prop)
    (hm : ∀ u w w', Below w.heap.size w w' → f u w → f u w')
    (h : ∀ xs w, Below w0.heap.size w0 w → edgeSat facts xs w o.after.toList → if Region.wanted o (yielded ops (fr xs).tmps) then locRun P o (fr xs) w (.fresh f) else f undef w) (hr : wpLocN P ops w0 fr Q rest (facts ++ [.fresh f]) nws) : wpLocN P ops w0 fr Q (o :: rest) facts nws :=
  ⟨.fresh f, hm, .inl ⟨h, hr⟩⟩
/-- A new block with its content. -/
def Block (n : Nat) (b : Obj) (u : Value) (w : World) : Prop := ∃ g, u = .pointer (some ⟨g, 0, none⟩) ∧ n ≤ g ∧ w.heap[g]? = some b
theorem Apart.ne {nws : List Nat} {xs : Nat → Value} (h : Apart nws xs) {i j g g' : Nat} (hi : i ∈ nws) (hj : j ∈ nws) (hij : i ≠ j) (e : xs i = .pointer (some ⟨g, 0, none⟩)) (e' : xs j = .pointer (some ⟨g', 0, none⟩)) : g ≠ g' := by
  intro hg
  subst hg
  exact h i hi j hj hij (e.trans e'.symm)
theorem wpLocN_new {ops : Array Oper} {w0 : World} {fr : (Nat → Value) → Act} {Q : Act → World → Prop} {facts : List Fact} {nws : List Nat} {o : Oper} {rest : List Oper} (b : Obj)
    (h : ∀ xs w, Below w0.heap.size w0 w → edgeSat facts xs w o.after.toList → Region.wanted o (yielded ops (fr xs).tmps) = true ∧ (execOp (fr xs).eval o).run P w = .ok (.value (.pointer (some ⟨w.heap.size, 0, none⟩))) (w.alloc b))
    (hr : wpLocN P ops w0 fr Q rest (facts ++ [.fresh (Block w0.heap.size b)]) (nws ++ [facts.length])) : wpLocN P ops w0 fr Q (o :: rest) facts nws :=
  ⟨.fresh (Block w0.heap.size b), fun u w w' hb ⟨g, h1, hs, h2⟩ => ⟨g, h1, hs, (hb.block g (Array.getElem?_eq_some_iff.1 h2).1).trans h2⟩, .inr ⟨fun xs w hb he => by
    obtain ⟨h1, h2⟩ := h xs w hb he
    refine ⟨h1, ?_⟩
    unfold locRun
    rw [h2]
    exact ⟨(Below.refl _ _).alloc (Nat.le_refl _) _, ⟨w.heap.size, rfl, hb.size, heap_alloc_new w b⟩, w.heap.size, rfl, Nat.le_refl _, by rw [World.size_alloc]; exact Nat.lt_succ_self _⟩, hr⟩⟩

theorem facts_of_wpLocN {ops : Array Oper} {w0 : World} {fr : (Nat → Value) → Act} {Q : Act → World → Prop} : ∀ (l : List Oper) (facts : List Fact) (nws : List Nat), wpLocN P ops w0 fr Q l facts nws →
    ∃ (fs : List Fact) (nws' : List Nat), fs.length = l.length ∧ (∀ f ∈ fs, f.mono) ∧ (∀ i ∈ nws', facts.length ≤ i ∧ i < facts.length + l.length) ∧
      (∀ j o f, l[j]? = some o → fs[j]? = some f → ∀ xs w, Below w0.heap.size w0 w → edgeSat (facts ++ fs.take j) xs w o.after.toList → if facts.length + j ∈ nws' then Region.wanted o (yielded ops (fr xs).tmps) = true ∧ locRun P o (fr xs) w (.fresh fun u w' => f.at_ u w' ∧ Born w u w') else if Region.wanted o (yielded ops (fr xs).tmps) then locRun P o (fr xs) w f else f.at_ undef w) ∧
      (∀ xs w, Below w0.heap.size w0 w → factsAll xs w 0 (facts ++ fs) → Apart (nws ++ nws') xs → Q (fr xs) w)
  | [], facts, nws, h => ⟨[], [], rfl, by simp, by simp, fun j o f hj => by simp at hj, by simpa [wpLocN] using h⟩
  | o :: rest, facts, nws, ⟨f, hm, hs⟩ => by
    rcases hs with ⟨hs, hr⟩ | ⟨hs, hr⟩
    · obtain ⟨fs, nws', hl, hms, hin, hss, hq⟩ := facts_of_wpLocN rest _ _ hr
      refine ⟨f :: fs, nws', by simp [hl], by simpa using ⟨hm, hms⟩, fun i hi => ?_, fun j o' f' hj hf => ?_, by simpa using hq⟩
      · have := hin i hi
        simp only [List.length_append, List.length_cons, List.length_nil] at this ⊢
        omega
      · cases j with
        | zero =>
          simp at hj hf
          subst hj hf
          have hno : ¬ facts.length + 0 ∈ nws' := fun h => by have := hin _ h; simp only [List.length_append, List.length_cons, List.length_nil] at this; omega
          simp only [hno, if_false]
          simpa using hs
        | succ j =>
          simp at hj hf
          have := hss j o' f' hj hf
          rw [show (facts ++ [f]).length + j = facts.length + (j + 1) by simp; omega] at this
          simpa using this
    · obtain ⟨fs, nws', hl, hms, hin, hss, hq⟩ := facts_of_wpLocN rest _ _ hr
      refine ⟨f :: fs, facts.length :: nws', by simp [hl], by simpa using ⟨hm, hms⟩, fun i hi => ?_, fun j o' f' hj hf => ?_, by simpa using hq⟩
      · rcases List.mem_cons.1 hi with hi | hi
        · subst hi; simp
        · have := hin i hi
          simp only [List.length_append, List.length_cons, List.length_nil] at this ⊢
          omega
      · cases j with
        | zero =>
          simp at hj hf
          subst hj hf
          have hyes : facts.length + 0 ∈ facts.length :: nws' := by simp
          simp only [hyes, if_true]
          simpa using hs
        | succ j =>
          simp at hj hf
          have := hss j o' f' hj hf
          rw [show (facts ++ [f]).length + j = facts.length + (j + 1) by simp; omega] at this
          have hiff : facts.length + (j + 1) ∈ facts.length :: nws' ↔ facts.length + (j + 1) ∈ nws' := by
            rw [List.mem_cons]
            constructor
            · rintro (h | h)
              · omega
              · exact h
            · exact .inr
          simp only [hiff]
          simpa using this

/-- The rule: a region that draws its order and makes new blocks; its last operations come one after the other, behind all others. -/
theorem wp_region_new {id : Nat} {Q : Exit → Act → World → Prop} {a0 : Act} {w : World} {ops : Array Oper} (l t : List Oper) {ol : Oper} {fr : (Nat → Value) → Act} (hops : ops = (l ++ ol :: t).toArray) (hm : P.follows .mixedOrders = true)
    (hd : dstsOk a0.tmps.size l.toArray = true) (hl : lexOk (l ++ ol :: t).toArray = true) (hcov : coverN l.length (l ++ ol :: t).toArray = true) (hrow : rowOk l.length (l ++ ol :: t).toArray = true) (hfr : ∀ xs, fill 0 l a0 xs = fr xs)
    (h : wpLocN P (l ++ ol :: t).toArray w fr (wpSeq P (l ++ ol :: t).toArray Q (ol :: t)) l [] []) : (Code.region id ops true).wp P Q a0 w := by
  subst hops
  obtain ⟨fs, nws, hfl, hmono, hin, hstep, hend⟩ := facts_of_wpLocN l [] [] h
  simp only [dstsOk, Bool.and_eq_true, List.all_eq_true, decide_eq_true_eq] at hd
  refine wp_region_any hm ?_
  have hd2 : ∀ o ∈ l, ∃ d, o.dst = some d ∧ d < a0.tmps.size := fun o ho => by
    have := hd.1 o ho
    cases hod : o.dst with
    | none => rw [hod] at this; simp at this
    | some d => rw [hod] at this; exact ⟨d, rfl, by simpa using this⟩
  have hself : ∃ xs, fill 0 l a0 xs = a0 := by
    refine ⟨fun j => ((l[j]?).bind (·.dst)).elim undef fun d => a0.tmps.getD d undef, ?_⟩
    have : ∀ (l' : List Oper) (k : Nat) (ys : Nat → Value), (∀ o ∈ l', ∃ d, o.dst = some d ∧ d < a0.tmps.size) → (∀ j o, l'[j]? = some o → ys (k + j) = o.dst.elim undef fun d => a0.tmps.getD d undef) → fill k l' a0 ys = a0 := by
      intro l'
      induction l' with
      | nil => intros; rfl
      | cons o l' ih =>
        intro k ys h1 h2
        obtain ⟨d, hod, hdl⟩ := h1 o (by simp)
        have hk := h2 0 o rfl
        simp only [fill]
        have hp : a0.put o.dst (ys k) = a0 := by
          rw [Nat.add_zero] at hk
          rw [hk, hod]
          simp only [Act.put, Option.elim_some]
          have : a0.tmps.setIfInBounds d (a0.tmps.getD d undef) = a0.tmps := by
            apply Array.ext_getElem?
            intro i
            rw [Array.getElem?_setIfInBounds]
            by_cases hi : d = i
            · subst hi
              simp [hdl]
            · rw [if_neg hi]
          rw [this]
        rw [hp]
        exact ih (k + 1) ys (fun o ho => h1 o (by simp [ho])) fun j o hj => by
          have := h2 (j + 1) o (by simpa using hj)
          rwa [show k + (j + 1) = k + 1 + j by omega] at this
    exact this l 0 _ hd2 fun j o hj => by simp [hj]
  obtain ⟨xs, hxs⟩ := hself
  have hB : Below w.heap.size w { w with drawn := w.drawn + 1 } := ⟨rfl, rfl, rfl, Nat.le_refl _, fun _ _ => rfl⟩
  have := loc_any_new (P := P) (ops := (l ++ ol :: t).toArray) (l := l) (ol := ol) (t := t) (by simp) (w0 := w) (a0 := a0) (Q := Q) (fs := fs) nws hd.2 (fun o ho => by obtain ⟨d, h, _⟩ := hd2 o ho; exact ⟨d, h⟩)
    (fun j o ho e he hb => by
      have h1 := List.all_eq_true.1 hl j (List.mem_range.2 (Array.getElem?_eq_some_iff.1 ho).1)
      rw [ho] at h1
      have h2 := List.all_eq_true.1 h1 e he
      simpa [hb] using h2)
    hcov hrow hfl hmono
    (fun j o f ho hf xs w' hb he => by
      have := hstep j o f ho hf xs w' hb (by simpa using he)
      rw [← hfr] at this
      simpa using this)
    (fun i hi => by have := hin i hi; simpa using this.2) (fun xs w' hb hf hap => by rw [hfr]; exact hend xs w' hb (by simpa using hf) (by simpa using hap))
    (l ++ ol :: t).toArray.size (Array.replicate (l ++ ol :: t).toArray.size false) xs _ (by simp) (by
      rw [List.countP_eq_length.2]
      · simp
      · intro j hj
        have : j < l.length + (t.length + 1) := by simpa using hj
        simp [this]) (fun j o hj hl => by
      exfalso
      have : j < l.length + (t.length + 1) := by simpa using (Array.getElem?_eq_some_iff.1 hj).1
      simp [this] at hl) (fun j _ hj => by
      have : j < l.length + (t.length + 1) := by simpa using hj
      simp [this]) hB (fun j f hj hl => by
      exfalso
      have : j < l.length := by rw [← hfl]; exact (List.getElem?_eq_some_iff.1 hj).1
      have : j < l.length + (t.length + 1) := by omega
      simp [this] at hl) (fun i hi hl => by
      exfalso
      have h1 := (hin i hi).2
      have : i < l.length + (t.length + 1) := by simp only [List.length_nil] at h1; omega
      simp [this] at hl) (fun i hi j hj hij hl => by
      exfalso
      have h1 := (hin i hi).2
      have : i < l.length + (t.length + 1) := by simp only [List.length_nil] at h1; omega
      simp [this] at hl)
  rw [hxs] at this
  exact this
end
end Go.Proofs.YtgabpbnndikheaaGreatDoor

set_option linter.constructorNameAsVariable false
/-! Products of vectors. -/
namespace Go.Proofs.YtgabpbnndikheaaGreatDoor
open Go.RowKit Go.Proofs.YtgabpbnndikheaaGreatDoorW.PrintWords

def cross (a b c : Pt) : Int := (way a b).x * (way a c).y - (way a b).y * (way a c).x
def dot (a b c : Pt) : Int := (way a b).x * (way a c).x + (way a b).y * (way a c).y
theorem way_le (a b : Pt) : (-2097152 ≤ (way a b).x ∧ (way a b).x ≤ 2097152) ∧ (-2097152 ≤ (way a b).y ∧ (way a b).y ≤ 2097152) := by
  have h1 := lim_le a.x
  have h2 := lim_le a.y
  have h3 := lim_le b.x
  have h4 := lim_le b.y
  unfold way
  simp only
  omega
theorem mul_le {m n : Int} (h1 : -2097152 ≤ m ∧ m ≤ 2097152) (h2 : -2097152 ≤ n ∧ n ≤ 2097152) : -4398046511104 ≤ m * n ∧ m * n ≤ 4398046511104 := by
  have a1 : m.natAbs ≤ 2097152 := by omega
  have a2 : n.natAbs ≤ 2097152 := by omega
  have a3 : (m * n).natAbs ≤ 4398046511104 := by
    rw [Int.natAbs_mul]
    exact Nat.mul_le_mul a1 a2
  omega
set_option maxRecDepth 100000 in
theorem cross_any (p q r : Pt) (w : World) :
    Calls Tryz.prog 124 #[p.v, q.v, r.v] w fun e w' => e = .returned (.int .i64 (cross p q r)) ∧ Below w.heap.size w w' := by
  have c1 := fun W => way_any p q W
  have c2 := fun W => way_any p r W
  have b1 := way_le p q
  have b2 := way_le p r
  have hc : (way p q).x * (way p r).y - (way p q).y * (way p r).x = cross p q r := rfl
  generalize way p q = u at *
  generalize way p r = v at *
  generalize cross p q r = R at *
  obtain ⟨ux, uy⟩ := u
  obtain ⟨vx, vy⟩ := v
  obtain ⟨px, py⟩ := p
  obtain ⟨qx, qy⟩ := q
  obtain ⟨rx, ry⟩ := r
  simp only [Pt.v] at *
  have m1 := mul_le b1.1 b2.2
  have m2 := mul_le b1.2 b2.1
  have v1 : wrap64 (ux * vy) = ux * vy := wrap64_id (by omega) (by omega)
  have v2 : wrap64 (uy * vx) = uy * vx := wrap64_id (by omega) (by omega)
  have v3 : wrap64 (ux * vy - uy * vx) = R := by rw [← hc]; exact wrap64_id (by omega) (by omega)
  clear hc b1 b2 m1 m2
  have C1 := Aside0.mk c1
  have C2 := Aside0.mk c2
  clear c1 c2
  go_enter Tryz.func124, Tryz.ntmps124
  go_wp2_with fail
  refine boxP3 fun w0 HB0 HX HY HZ => ?_
  refine wp_region_new [_, _, _, _, _, _, _, _] [_] rfl (by kernel_rfl) (by kernel_rfl) (by kernel_rfl) (by kernel_rfl) (by kernel_rfl) (fun xs => by simp only [fill, Act.put, List.setIfInBounds_toArray, List.set_cons_zero, List.set_cons_succ, Nat.reduceAdd]; rfl) ?_
  iterate 6 (apply wpLocN_det; · (intro vs W hb he; obtain ⟨k1, k2⟩ := (HX.out.keep hb).cs; obtain ⟨k3, k4⟩ := (HY.out.keep hb).cs; obtain ⟨k5, k6⟩ := (HZ.out.keep hb).cs; simp only at k1 k2 k3 k4 k5 k6; simp [edgeSat, Region.binds, Fact.at_] at he; unfold locRun; go_simp; first | exact loc_val | (with_reducible exact loc_call (C1.out W)) | (with_reducible exact loc_call (C2.out W))))
  iterate 2 (apply wpLocN_new (.cells #[.int .i64 0, .int .i64 0] 42 (0, 0)); · (intro vs W hb he; refine ⟨by rfl, ?_⟩; go_simp; done))
  refine wpLocN_nil fun vs W hb he hap => ?_
  simp only [List.nil_append, List.cons_append, factsAll, Fact.at_, Nat.reduceAdd] at he
  obtain ⟨-, -, e1, -, -, e3, ⟨g1, e4, n1, B1⟩, ⟨g2, e5, n2, B2⟩, -⟩ := he
  have hne : g1 ≠ g2 := hap.ne (by simp) (by simp) (by decide) e4 e5
  have N1 := Nat.le_trans HB0.out.size n1
  have N2 := Nat.le_trans HB0.out.size n2
  rw [e1, e3, e4, e5]
  have HB := HB0.out.trans (hb.mono HB0.out.size)
  clear HB0 hb HX HY HZ e1 e3 C1 C2 n1 n2 hap e4 e5
  have HP : BoxP W g1 ⟨0, 0⟩ := B1
  have HQ : BoxP W g2 ⟨0, 0⟩ := B2
  clear B1 B2
  obtain ⟨k1, k2⟩ := HP.cs
  have k5 := HP.fr
  simp only at k1 k2
  unfold wpSeq
  rw [if_pos (by rfl)]
  go_wp2
  obtain ⟨W1, e1⟩ : ∃ W1, W1 = set2 W g1 ux uy := ⟨_, rfl⟩
  have HP2 := Aside0.mk (e1 ▸ HP.set ux uy : BoxP W1 g1 ⟨ux, uy⟩)
  have HQ2 := Aside0.mk (e1 ▸ HQ.far (fun e => hne e.symm) ux uy : BoxP W1 g2 ⟨0, 0⟩)
  have HB1 := Aside0.mk (e1 ▸ below_set2 HB N1 ux uy : Below w.heap.size w W1)
  unfold set2 at e1
  rw [← e1]
  clear k1 k2 k5 HP HQ HB e1
  obtain ⟨k3, k4⟩ := HQ2.out.cs
  have k6 := HQ2.out.fr
  simp only at k3 k4
  unfold wpSeq
  rw [if_pos (by rfl)]
  go_wp2
  obtain ⟨W2, e2⟩ : ∃ W2, W2 = set2 W1 g2 vx vy := ⟨_, rfl⟩
  have HP3 := Aside0.mk (e2 ▸ HP2.out.far hne vx vy : BoxP W2 g1 ⟨ux, uy⟩)
  have HQ3 := Aside0.mk (e2 ▸ HQ2.out.set vx vy : BoxP W2 g2 ⟨vx, vy⟩)
  have HB2 := Aside0.mk (e2 ▸ below_set2 HB1.out N2 vx vy : Below w.heap.size w W2)
  unfold set2 at e2
  rw [← e2]
  clear k3 k4 k6 HP2 HQ2 HB1 e2
  obtain ⟨k1, k2⟩ := HP3.out.cs
  obtain ⟨k3, k4⟩ := HQ3.out.cs
  simp only at k1 k2 k3 k4
  unfold wpSeq
  go_wp2
  go_ret
  exact ⟨i64_ret v3, HB2.out⟩
set_option maxRecDepth 100000 in
theorem dot_any (p q r : Pt) (w : World) :
    Calls Tryz.prog 133 #[p.v, q.v, r.v] w fun e w' => e = .returned (.int .i64 (dot p q r)) ∧ Below w.heap.size w w' := by
  have c1 := fun W => way_any p q W
  have c2 := fun W => way_any p r W
  have b1 := way_le p q
  have b2 := way_le p r
  have hc : (way p q).x * (way p r).x + (way p q).y * (way p r).y = dot p q r := rfl
  generalize way p q = u at *
  generalize way p r = v at *
  generalize dot p q r = R at *
  obtain ⟨ux, uy⟩ := u
  obtain ⟨vx, vy⟩ := v
  obtain ⟨px, py⟩ := p
  obtain ⟨qx, qy⟩ := q
  obtain ⟨rx, ry⟩ := r
  simp only [Pt.v] at *
  have m1 := mul_le b1.1 b2.1
  have m2 := mul_le b1.2 b2.2
  have v1 : wrap64 (ux * vx) = ux * vx := wrap64_id (by omega) (by omega)
  have v2 : wrap64 (uy * vy) = uy * vy := wrap64_id (by omega) (by omega)
  have v3 : wrap64 (ux * vx + uy * vy) = R := by rw [← hc]; exact wrap64_id (by omega) (by omega)
  clear hc b1 b2 m1 m2
  have C1 := Aside0.mk c1
  have C2 := Aside0.mk c2
  clear c1 c2
  go_enter Tryz.func133, Tryz.ntmps133
  go_wp2_with fail
  refine boxP3 fun w0 HB0 HX HY HZ => ?_
  refine wp_region_new [_, _, _, _, _, _, _, _] [_] rfl (by kernel_rfl) (by kernel_rfl) (by kernel_rfl) (by kernel_rfl) (by kernel_rfl) (fun xs => by simp only [fill, Act.put, List.setIfInBounds_toArray, List.set_cons_zero, List.set_cons_succ, Nat.reduceAdd]; rfl) ?_
  iterate 6 (apply wpLocN_det; · (intro vs W hb he; obtain ⟨k1, k2⟩ := (HX.out.keep hb).cs; obtain ⟨k3, k4⟩ := (HY.out.keep hb).cs; obtain ⟨k5, k6⟩ := (HZ.out.keep hb).cs; simp only at k1 k2 k3 k4 k5 k6; simp [edgeSat, Region.binds, Fact.at_] at he; unfold locRun; go_simp; first | exact loc_val | (with_reducible exact loc_call (C1.out W)) | (with_reducible exact loc_call (C2.out W))))
  iterate 2 (apply wpLocN_new (.cells #[.int .i64 0, .int .i64 0] 42 (0, 0)); · (intro vs W hb he; refine ⟨by rfl, ?_⟩; go_simp; done))
  refine wpLocN_nil fun vs W hb he hap => ?_
  simp only [List.nil_append, List.cons_append, factsAll, Fact.at_, Nat.reduceAdd] at he
  obtain ⟨-, -, e1, -, -, e3, ⟨g1, e4, n1, B1⟩, ⟨g2, e5, n2, B2⟩, -⟩ := he
  have hne : g1 ≠ g2 := hap.ne (by simp) (by simp) (by decide) e4 e5
  have N1 := Nat.le_trans HB0.out.size n1
  have N2 := Nat.le_trans HB0.out.size n2
  rw [e1, e3, e4, e5]
  have HB := HB0.out.trans (hb.mono HB0.out.size)
  clear HB0 hb HX HY HZ e1 e3 C1 C2 n1 n2 hap e4 e5
  have HP : BoxP W g1 ⟨0, 0⟩ := B1
  have HQ : BoxP W g2 ⟨0, 0⟩ := B2
  clear B1 B2
  obtain ⟨k1, k2⟩ := HP.cs
  have k5 := HP.fr
  simp only at k1 k2
  unfold wpSeq
  rw [if_pos (by rfl)]
  go_wp2
  obtain ⟨W1, e1⟩ : ∃ W1, W1 = set2 W g1 ux uy := ⟨_, rfl⟩
  have HP2 := Aside0.mk (e1 ▸ HP.set ux uy : BoxP W1 g1 ⟨ux, uy⟩)
  have HQ2 := Aside0.mk (e1 ▸ HQ.far (fun e => hne e.symm) ux uy : BoxP W1 g2 ⟨0, 0⟩)
  have HB1 := Aside0.mk (e1 ▸ below_set2 HB N1 ux uy : Below w.heap.size w W1)
  unfold set2 at e1
  rw [← e1]
  clear k1 k2 k5 HP HQ HB e1
  obtain ⟨k3, k4⟩ := HQ2.out.cs
  have k6 := HQ2.out.fr
  simp only at k3 k4
  unfold wpSeq
  rw [if_pos (by rfl)]
  go_wp2
  obtain ⟨W2, e2⟩ : ∃ W2, W2 = set2 W1 g2 vx vy := ⟨_, rfl⟩
  have HP3 := Aside0.mk (e2 ▸ HP2.out.far hne vx vy : BoxP W2 g1 ⟨ux, uy⟩)
  have HQ3 := Aside0.mk (e2 ▸ HQ2.out.set vx vy : BoxP W2 g2 ⟨vx, vy⟩)
  have HB2 := Aside0.mk (e2 ▸ below_set2 HB1.out N2 vx vy : Below w.heap.size w W2)
  unfold set2 at e2
  rw [← e2]
  clear k3 k4 k6 HP2 HQ2 HB1 e2
  obtain ⟨k1, k2⟩ := HP3.out.cs
  obtain ⟨k3, k4⟩ := HQ3.out.cs
  simp only at k1 k2 k3 k4
  unfold wpSeq
  go_wp2
  go_ret
  exact ⟨i64_ret v3, HB2.out⟩
end Go.Proofs.YtgabpbnndikheaaGreatDoor

set_option linter.constructorNameAsVariable false
/-! Turns. -/
namespace Go.Proofs.YtgabpbnndikheaaGreatDoor
open Go.RowKit Go.Proofs.YtgabpbnndikheaaGreatDoorW.PrintWords

def sg (a b : Int) : Int := if a < b then -1 else if b < a then 1 else 0
theorem sg_le (a b : Int) : -1 ≤ sg a b ∧ sg a b ≤ 1 := by unfold sg; split <;> (try split) <;> omega
set_option maxRecDepth 100000 in
theorem icmp_any (a b : Int) (w : World) :
    Calls Tryz.prog 123 #[.int .i64 a, .int .i64 b] w fun e w' => e = .returned (.int .i64 (sg a b)) ∧ w = w' := by
  unfold sg
  by_cases h1 : a < b
  · rw [if_pos h1]
    go_enter Tryz.func123, Tryz.ntmps123
    go_wp2
    go_ret
    exact ⟨rfl, rfl⟩
  · rw [if_neg h1]
    by_cases h2 : b < a
    · rw [if_pos h2]
      go_enter Tryz.func123, Tryz.ntmps123
      go_wp2
      go_ret
      exact ⟨rfl, rfl⟩
    · rw [if_neg h2]
      go_enter Tryz.func123, Tryz.ntmps123
      go_wp2
      go_ret
      exact ⟨rfl, rfl⟩

theorem boxP3c {P : Program} {g : FuncId} {args : Array Value} {K : Ending → World → Prop} {w : World} {m n m' n' m2 n2 : Int}
    (h : ∀ w0, Aside0 (Below w.heap.size w w0) → Aside0 (BoxP w0 w.heap.size ⟨m, n⟩) → Aside0 (BoxP w0 (w.heap.size + 1) ⟨m', n'⟩) → Aside0 (BoxP w0 (w.heap.size + 1 + 1) ⟨m2, n2⟩) → Calls P g args w0 K) :
    Calls P g args (((w.alloc (.cells #[.int .i64 m, .int .i64 n] 42)).alloc (.cells #[.int .i64 m', .int .i64 n'] 42)).alloc (.cells #[.int .i64 m2, .int .i64 n2] 42)) K := by
  have h1 := boxP_alloc w ⟨m, n⟩
  have h2 := boxP_alloc (w.alloc (.cells #[.int .i64 m, .int .i64 n] 42)) ⟨m', n'⟩
  have h3 := boxP_alloc ((w.alloc (.cells #[.int .i64 m, .int .i64 n] 42)).alloc (.cells #[.int .i64 m', .int .i64 n'] 42)) ⟨m2, n2⟩
  simp only [World.size_alloc] at h2 h3
  have b1 := below_alloc' (Below.refl _ (w.alloc (.cells #[.int .i64 m, .int .i64 n] 42))) (.cells #[.int .i64 m', .int .i64 n'] 42)
  have b2 := below_alloc' (Below.refl _ ((w.alloc (.cells #[.int .i64 m, .int .i64 n] 42)).alloc (.cells #[.int .i64 m', .int .i64 n'] 42))) (.cells #[.int .i64 m2, .int .i64 n2] 42)
  exact h _ ⟨below_alloc' (below_alloc' (below_alloc' (Below.refl _ _) _) _) _⟩ ⟨(h1.keep b1).keep b2⟩ ⟨h2.keep b2⟩ ⟨h3⟩
theorem below_call {w w0 w1 : World} (h : Below w.heap.size w w0) (h1 : Below w0.heap.size w0 w1) : Below w.heap.size w w1 := h.trans (h1.mono h.size)
def turn (a b c : Pt) : Int := sg (cross a b c) 0
set_option maxRecDepth 100000 in
theorem turn_any (p q r : Pt) (w : World) :
    Calls Tryz.prog 117 #[p.v, q.v, r.v] w fun e w' => e = .returned (.int .i64 (turn p q r)) ∧ Below w.heap.size w w' := by
  have c1 := fun W => cross_any p q r W
  have c2 := fun W => icmp_any (cross p q r) 0 W
  have hc : sg (cross p q r) 0 = turn p q r := rfl
  rw [hc] at c2
  generalize cross p q r = m at *
  generalize turn p q r = n at *
  obtain ⟨px, py⟩ := p
  obtain ⟨qx, qy⟩ := q
  obtain ⟨rx, ry⟩ := r
  simp only [Pt.v] at *
  go_enter Tryz.func117, Tryz.ntmps117
  have C1 := Aside0.mk c1
  have C2 := Aside0.mk c2
  clear c1 c2
  go_wp2_with (first
    | (go_at_call 124; refine boxP3c fun w0 HB0 HX HY HZ => ?_; refine (C1.out _).mono ?_; rintro e w1 ⟨rfl, hB⟩; have HB1 := Aside0.mk (below_call HB0.out hB); clear hB)
    | (go_at_call 123; refine (C2.out _).mono ?_; rintro e w2 ⟨rfl, rfl⟩))
  go_ret
  exact ⟨rfl, HB1.out⟩

def onSeg (a b p : Pt) : Bool := turn a b p == 0 && decide (dot p a b ≤ 0)
set_option maxRecDepth 100000 in
theorem on_any (p q r : Pt) (w : World) :
    Calls Tryz.prog 126 #[p.v, q.v, r.v] w fun e w' => e = .returned (.bool (onSeg p q r)) ∧ Below w.heap.size w w' := by
  have c1 := fun W => turn_any p q r W
  have c2 := fun W => dot_any r p q W
  have hc : onSeg p q r = (turn p q r == 0 && decide (dot r p q ≤ 0)) := rfl
  rw [hc]
  clear hc
  generalize turn p q r = m at *
  generalize dot r p q = n at *
  obtain ⟨px, py⟩ := p
  obtain ⟨qx, qy⟩ := q
  obtain ⟨rx, ry⟩ := r
  simp only [Pt.v] at *
  have C1 := Aside0.mk c1
  have C2 := Aside0.mk c2
  clear c1 c2
  by_cases hm : m = 0
  · subst hm
    go_enter Tryz.func126, Tryz.ntmps126
    go_wp2_with (first
      | (go_at_call 117; refine boxP3c fun w0 HB0 HX HY HZ => ?_; refine (C1.out _).mono ?_; rintro e w1 ⟨rfl, hB⟩; have HB1 := Aside0.mk (below_call HB0.out hB); obtain ⟨k1, k2⟩ := (HX.out.keep hB).cs; obtain ⟨k3, k4⟩ := (HY.out.keep hB).cs; obtain ⟨k5, k6⟩ := (HZ.out.keep hB).cs; simp only at k1 k2 k3 k4 k5 k6; clear hB HB0 HX HY HZ)
      | (go_at_call 133; refine (C2.out _).mono ?_; rintro e w2 ⟨rfl, hB⟩; have HB2 := Aside0.mk (below_call HB1.out hB); clear hB k1 k2 k3 k4 k5 k6))
    go_ret
    exact ⟨by simp, HB2.out⟩
  · have hm' : (m == 0) = false := by simpa using hm
    rw [hm', Bool.false_and]
    go_enter Tryz.func126, Tryz.ntmps126
    go_wp2_with (first
      | (go_at_call 117; refine boxP3c fun w0 HB0 HX HY HZ => ?_; refine (C1.out _).mono ?_; rintro e w1 ⟨rfl, hB⟩; have HB1 := Aside0.mk (below_call HB0.out hB); clear hB HB0 HX HY HZ))
    go_ret
    exact ⟨rfl, HB1.out⟩
end Go.Proofs.YtgabpbnndikheaaGreatDoor

set_option linter.constructorNameAsVariable false
/-! Points within the bounds. -/
namespace Go.Proofs.YtgabpbnndikheaaGreatDoor
open Go.RowKit Go.Proofs.YtgabpbnndikheaaGreatDoorW.PrintWords

def okPt (p : Pt) : Bool := p.x == lim p.x && p.y == lim p.y
theorem bool_ret {a b : Bool} (h : a = b) : Ending.returned (.bool a) = .returned (.bool b) := by rw [h]
theorem loc_eq2 {P : Program} {W : World} (x x' y y' : Int) : locUpon P W (.det (.bool (x == x' && y == y'))) (if x = x' then if y = y' then Result.ok (Next.value (.bool true)) W else Result.ok (Next.value (.bool false)) W else Result.ok (Next.value (.bool false)) W) := by
  by_cases h1 : x = x'
  · rw [if_pos h1]
    by_cases h2 : y = y'
    · rw [if_pos h2]
      subst h1 h2
      simp only [beq_self_eq_true, Bool.and_self]
      exact loc_val
    · rw [if_neg h2, show (x == x' && y == y') = false by simp [h2]]
      exact loc_val
  · rw [if_neg h1, show (x == x' && y == y') = false by simp [h1]]
    exact loc_val
set_option maxRecDepth 100000 in
theorem ok_any (p : Pt) (w : World) :
    Calls Tryz.prog 87 #[p.v] w fun e w' => e = .returned (.bool (okPt p)) ∧ Below w.heap.size w w' := by
  have c1 := fun W => clamp_any p W
  have C1 := Aside0.mk c1
  clear c1
  obtain ⟨x, y⟩ := p
  simp only [Pt.v, Pt.clamp, okPt] at *
  generalize lim x = x' at *
  generalize lim y = y' at *
  go_enter Tryz.func87, Tryz.ntmps87
  go_wp2_with fail
  refine boxP1 fun w0 HB0 HX => ?_
  refine wp_region_last' [_, _, _, _] rfl (by kernel_rfl) (by kernel_rfl) (by kernel_rfl) (by kernel_rfl) (fun xs => by simp only [fill, Act.put, List.setIfInBounds_toArray, List.set_cons_zero, List.set_cons_succ, Nat.reduceAdd]; rfl) ?_
  iterate 3 (apply wpLoc_det; · (intro vs W hb he; obtain ⟨k1, k2⟩ := (HX.out.keep hb).cs; simp only at k1 k2; simp [edgeSat, Region.binds, Fact.at_] at he; unfold locRun; go_simp; first | exact loc_val | (with_reducible exact loc_call (C1.out W))))
  apply wpLoc_det (.bool (x == x' && y == y'))
  · intro vs W hb he
    simp [edgeSat, Region.binds, Fact.at_] at he
    unfold locRun
    go_simp
    exact loc_eq2 x x' y y'
  refine wpLoc_nil fun vs W hb he => ?_
  simp only [List.nil_append, List.cons_append, factsAll, Fact.at_, Nat.reduceAdd] at he
  obtain ⟨-, -, -, e6, -⟩ := he
  have HB := Aside0.mk (below_call HB0.out hb)
  rw [if_pos (by rfl), e6]
  clear e6 HB0 hb HX C1
  obtain ⟨r, hr⟩ : ∃ r, r = (x == x' && y == y') := ⟨_, rfl⟩
  rw [← hr]
  go_wp2
  go_ret
  exact ⟨bool_ret hr, HB.out⟩
end Go.Proofs.YtgabpbnndikheaaGreatDoor

set_option linter.constructorNameAsVariable false
/-! Names. -/
namespace Go.Proofs.YtgabpbnndikheaaGreatDoor
open Go.RowKit Go.Proofs.YtgabpbnndikheaaGreatDoorW.PrintWords

def nameC (z : Bool) (n : Nat) : Bool := (decide (97 ≤ n) && decide (n ≤ 122)) || (z && ((n == 95) || (decide (48 ≤ n) && decide (n ≤ 57))))
def bt (s : ByteArray) (j : Nat) : Nat := (s.data.toList.getD j 0).toNat
theorem bt_get {s : ByteArray} {j : Nat} (h : j < s.size) : bt s j = s[j].toNat := by
  unfold bt
  rw [List.getD_eq_getElem?_getD, List.getElem?_eq_getElem (by simpa using h)]
  rfl
def nameUpto (s : ByteArray) (k : Nat) : Bool := (List.range k).all fun j => nameC (decide (0 < j)) (bt s j)
def nameOk (s : ByteArray) : Bool := nameUpto s s.size && (decide (1 ≤ s.size) && decide (s.size ≤ 12))
theorem nameUpto_no {s : ByteArray} {i n : Nat} (hi : i < n) (h : nameC (decide (0 < i)) (bt s i) = false) : nameUpto s n = false := by
  unfold nameUpto
  rw [Bool.eq_false_iff]
  intro e
  rw [List.all_eq_true] at e
  have := e i (List.mem_range.2 hi)
  rw [h] at this
  cases this
theorem nameUpto_succ {s : ByteArray} {i : Nat} (h : nameUpto s i = true) (h2 : nameC (decide (0 < i)) (bt s i) = true) : nameUpto s (i + 1) = true := by
  unfold nameUpto at *
  rw [List.range_succ, List.all_append, h, Bool.true_and]
  simp only [List.all_cons, List.all_nil, Bool.and_true]
  exact h2
theorem nameC_good {z : Bool} {n : Nat} (h : nameC z n = true) : (97 ≤ n ∧ n ≤ 122) ∨ (z = true ∧ n = 95) ∨ (z = true ∧ 48 ≤ n ∧ n ≤ 57) := by
  unfold nameC at h
  cases z
  · simp at h; simp; omega
  · simp at h; simp; omega
theorem nameC_bad {z : Bool} {n : Nat} (h : nameC z n = false) : (z = false ∧ n < 97) ∨ (z = false ∧ 122 < n) ∨ (z = true ∧ n < 97 ∧ n ≠ 95 ∧ n < 48) ∨ (z = true ∧ n < 97 ∧ n ≠ 95 ∧ 57 < n) ∨ (z = true ∧ 122 < n) := by
  unfold nameC at h
  cases z
  · simp at h; simp; omega
  · simp at h; simp; omega
set_option maxHeartbeats 4000000 in
set_option maxRecDepth 100000 in
theorem name_any (s : ByteArray) (w : World) (hm : s.size ≤ 9223372036854775807) :
    Calls Tryz.prog 36 #[.string s] w fun e w' => e = .returned (.bool (nameOk s)) ∧ w = w' := by
  obtain ⟨R, hR⟩ : ∃ R, R = nameOk s := ⟨_, rfl⟩
  rw [← hR]
  unfold nameOk at hR
  have HD := Aside0.mk hR
  clear hR
  go_enter Tryz.func36, Tryz.ntmps36
  go_wp2
  go_loop [7] (fun i => ∃ k : Nat, k ≤ s.size ∧ i = .int .i64 k ∧ Aside0 (nameUpto s k = true)) (fun i => s.size - (intOf i).toNat)
  case atStart => exact ⟨0, Nat.zero_le _, rfl, ⟨rfl⟩⟩
  case round =>
    obtain ⟨k, hk, rfl, HF⟩ := hrel
    by_cases hlt : k < s.size
    · have hd : decide ((k : Int) < s.size) = true := by simp; omega
      have HB := Aside0.mk (bt_get hlt)
      have HN := Aside0.mk (fun e => nameUpto_no (s := s) hlt e)
      have HT := Aside0.mk (fun e => nameUpto_succ (s := s) HF.out e)
      rw [HB.out] at HN HT
      have hu := s[k].toNat_lt
      cases hc : nameC (decide (0 < k)) s[k].toNat
      · have HN2 := Aside0.mk (HN.out hc)
        have hb := nameC_bad hc
        clear hc HN HT HB
        have hq : (¬ 0 < k ∧ decide ((97 : Int) ≤ (s[k].toNat : Int)) = false) ∨ (¬ 0 < k ∧ decide ((97 : Int) ≤ (s[k].toNat : Int)) = true ∧ decide ((s[k].toNat : Int) ≤ 122) = false)
            ∨ (0 < k ∧ decide ((97 : Int) ≤ (s[k].toNat : Int)) = false ∧ ((s[k].toNat : Int) == 95) = false ∧ decide ((48 : Int) ≤ (s[k].toNat : Int)) = false)
            ∨ (0 < k ∧ decide ((97 : Int) ≤ (s[k].toNat : Int)) = false ∧ ((s[k].toNat : Int) == 95) = false ∧ decide ((48 : Int) ≤ (s[k].toNat : Int)) = true ∧ decide ((s[k].toNat : Int) ≤ 57) = false)
            ∨ (0 < k ∧ decide ((97 : Int) ≤ (s[k].toNat : Int)) = true ∧ decide ((s[k].toNat : Int) ≤ 122) = false ∧ ((s[k].toNat : Int) == 95) = false ∧ decide ((48 : Int) ≤ (s[k].toNat : Int)) = true ∧ decide ((s[k].toNat : Int) ≤ 57) = false) := by
          simp at hb ⊢
          omega
        clear hb
        rcases hq with ⟨h1, h2⟩ | ⟨h1, h2, h3⟩ | ⟨h1, h2, h3, h4⟩ | ⟨h1, h2, h3, h4, h5⟩ | ⟨h1, h2, h3, h4, h5, h6⟩
        all_goals
          go_wp2
          go_ret
          exact ⟨bool_ret (by rw [HD.out, HN2.out, Bool.false_and]), rfl⟩
      · have HT2 := Aside0.mk (HT.out hc)
        have hb := nameC_good hc
        clear hc HN HT HB
        have hq : (decide ((97 : Int) ≤ (s[k].toNat : Int)) = true ∧ decide ((s[k].toNat : Int) ≤ 122) = true) ∨ (0 < k ∧ decide ((97 : Int) ≤ (s[k].toNat : Int)) = false ∧ ((s[k].toNat : Int) == 95) = true)
            ∨ (0 < k ∧ decide ((97 : Int) ≤ (s[k].toNat : Int)) = false ∧ ((s[k].toNat : Int) == 95) = false ∧ decide ((48 : Int) ≤ (s[k].toNat : Int)) = true ∧ decide ((s[k].toNat : Int) ≤ 57) = true) := by
          simp at hb ⊢
          omega
        clear hb
        rcases hq with ⟨h1, h2⟩ | ⟨h1, h2, h3⟩ | ⟨h1, h2, h3, h4, h5⟩
        all_goals
          go_wp2
          go_round
          case rel => exact ⟨k + 1, by omega, by go_num, HT2⟩
          case measure => simp [intOf]; omega
    · have hd : decide ((k : Int) < s.size) = false := by simp; omega
      have hks : k = s.size := by omega
      rw [hks] at HF
      rw [HF.out, Bool.true_and] at HD
      have hz : decide (1 ≤ s.size) = decide ((1 : Int) ≤ (s.size : Int)) := by rw [decide_eq_decide]; omega
      have hz2 : decide (s.size ≤ 12) = decide ((s.size : Int) ≤ 12) := by rw [decide_eq_decide]; omega
      rw [hz, hz2] at HD
      generalize hg1 : decide ((1 : Int) ≤ (s.size : Int)) = g1 at HD
      generalize hg2 : decide ((s.size : Int) ≤ 12) = g2 at HD
      clear hz hz2
      cases g1 <;> cases g2
      all_goals
        go_wp2
        go_ret
        exact ⟨bool_ret (by rw [HD.out]; rfl), rfl⟩
end Go.Proofs.YtgabpbnndikheaaGreatDoor

set_option linter.constructorNameAsVariable false
/-! Trimming by a set of bytes. -/
namespace Go.Proofs.YtgabpbnndikheaaGreatDoor
open Go.RowKit Go.Proofs.YtgabpbnndikheaaGreatDoorW.PrintWords

def SetAt (w : World) (b : Nat) (f : UInt8 → Bool) : Prop := ∀ x : UInt8, w.cell? ⟨b, x.toNat, none⟩ = some (.bool (f x))
theorem str_ret {a b : ByteArray} (h : a = b) : Ending.returned (.string a) = .returned (.string b) := by rw [h]
theorem str_val {a b : ByteArray} (h : a = b) : Value.string a = .string b := by rw [h]
theorem tail_ext (x : UInt8) (m : List UInt8) (n : Nat) (hn : n = m.length + 1) : (⟨(x :: m).toArray⟩ : ByteArray).extract 1 n = ⟨m.toArray⟩ := by
  subst hn
  apply ByteArray.ext
  rw [ByteArray.data_extract]
  apply Array.toList_inj.1
  rw [Array.toList_extract]
  simp [List.extract_eq_take_drop]
theorem head_ext (m : List UInt8) (x : UInt8) (s : ByteArray) (hs : s = ⟨(m ++ [x]).toArray⟩) : s.extract 0 m.length = ⟨m.toArray⟩ := by
  subst hs
  apply ByteArray.ext
  rw [ByteArray.data_extract]
  apply Array.toList_inj.1
  rw [Array.toList_extract]
  simp [List.extract_eq_take_drop]
set_option maxRecDepth 100000 in
theorem trimL_any (f : UInt8 → Bool) (l : List UInt8) (b : Nat) (w : World) (h : SetAt w b f) (hm : l.length ≤ 9223372036854775807) :
    Calls Tryz.prog 96 #[.string ⟨l.toArray⟩, .pointer (some ⟨b, 0, none⟩)] w fun e w' => e = .returned (.string ⟨(l.dropWhile f).toArray⟩) ∧ w = w' := by
  have HS := Aside0.mk h
  clear h
  go_enter Tryz.func96, Tryz.ntmps96
  go_wp2
  go_loopw [0] (fun u wr => ∃ m : List UInt8, u = .string ⟨m.toArray⟩ ∧ m.length ≤ 9223372036854775807 ∧ Aside0 (l.dropWhile f = m.dropWhile f) ∧ w = wr) (fun u _ => match u with | .string s => s.size | _ => 0)
  case atStart => exact ⟨l, rfl, hm, ⟨rfl⟩, rfl⟩
  case round =>
    obtain ⟨m, rfl, hm2, HE, rfl⟩ := hrel
    cases m with
    | nil =>
      go_wp2
      go_ret
      exact ⟨by rw [HE.out]; rfl, rfl⟩
    | cons x m =>
      have hc := Tryz.asciiSet_contains b x (f x) w (HS.out x)
      generalize hfx : f x = g at hc
      have HC := Aside0.mk hc
      clear hc
      cases g
      · go_wp2_with (go_at_call 110; refine HC.out.mono ?_; rintro e w1 ⟨rfl, rfl⟩)
        go_ret
        exact ⟨str_ret (by rw [HE.out, List.dropWhile_cons, hfx]; rfl), rfl⟩
      · go_wp2_with (go_at_call 110; refine HC.out.mono ?_; rintro e w1 ⟨rfl, rfl⟩)
        go_roundw
        case rel => exact ⟨m, str_val (tail_ext x m _ (by simp)), by simp at hm2; omega, ⟨by rw [HE.out, List.dropWhile_cons, hfx]; rfl⟩, by first | rfl | trivial⟩
        case measure =>
          have hz : (⟨(x :: m).toArray⟩ : ByteArray).size = m.length + 1 := by simp [ByteArray.size]
          simp
          omega
/-- Without the last ones of a kind. -/
def dropEnd (f : UInt8 → Bool) (l : List UInt8) : List UInt8 := (l.reverse.dropWhile f).reverse
theorem dropEnd_last (f : UInt8 → Bool) (l : List UInt8) (x : UInt8) : dropEnd f (l ++ [x]) = if f x = true then dropEnd f l else l ++ [x] := by
  unfold dropEnd
  rw [List.reverse_append]
  simp only [List.reverse_cons, List.reverse_nil, List.nil_append, List.singleton_append, List.dropWhile_cons]
  split <;> simp
set_option maxRecDepth 100000 in
theorem trimR_any (f : UInt8 → Bool) (l : List UInt8) (b : Nat) (w : World) (h : SetAt w b f) (hm : l.length ≤ 9223372036854775807) :
    Calls Tryz.prog 97 #[.string ⟨l.toArray⟩, .pointer (some ⟨b, 0, none⟩)] w fun e w' => e = .returned (.string ⟨(dropEnd f l).toArray⟩) ∧ w = w' := by
  have HS := Aside0.mk h
  clear h
  go_enter Tryz.func97, Tryz.ntmps97
  go_wp2
  go_loopw [0] (fun u wr => ∃ m : List UInt8, u = .string ⟨m.toArray⟩ ∧ m.length ≤ 9223372036854775807 ∧ Aside0 (dropEnd f l = dropEnd f m) ∧ w = wr) (fun u _ => match u with | .string s => s.size | _ => 0)
  case atStart => exact ⟨l, rfl, hm, ⟨rfl⟩, rfl⟩
  case round =>
    obtain ⟨m, rfl, hm2, HE, rfl⟩ := hrel
    rcases List.eq_nil_or_concat m with rfl | ⟨m, x, rfl⟩
    · go_wp2
      go_ret
      exact ⟨by rw [HE.out]; rfl, rfl⟩
    · rw [List.concat_eq_append] at hm2 HE ⊢
      rw [List.length_append, List.length_singleton] at hm2
      have hc := Tryz.asciiSet_contains b x (f x) w (HS.out x)
      obtain ⟨s, hs⟩ : ∃ s : ByteArray, s = ⟨(m ++ [x]).toArray⟩ := ⟨_, rfl⟩
      have hsz : s.size = m.length + 1 := by rw [hs]; simp [ByteArray.size]
      have hlt : m.length < s.size := by omega
      have hlast : s[m.length] = x := by
        subst hs
        simp [ByteArray.getElem_eq_getElem_data]
      have n1 : IntKind.i64.wrap ((s.size : Int) - 1) = (m.length : Int) := by rw [IntKind.wrap_i64]; omega
      have n2 : wrap64 ((s.size : Int) - 1) = (m.length : Int) := wrap64_id (by omega) (by omega) |>.trans (by omega)
      have n0 : decide ((0 : Int) < (s.size : Int)) = true := by simp; omega
      have hi : (m.length : Int) < (s.size : Int) := by omega
      generalize hfx : f x = g at hc
      have HC := Aside0.mk hc
      have HSS := Aside0.mk hs
      have HSZ := Aside0.mk hsz
      rw [← hs]
      clear hc hs hsz
      cases g
      · go_wp2_with (go_at_call 110; refine HC.out.mono ?_; rintro e w1 ⟨rfl, rfl⟩)
        go_ret
        exact ⟨str_ret (by rw [HE.out, dropEnd_last, hfx, HSS.out]; rfl), rfl⟩
      · go_wp2_with (go_at_call 110; refine HC.out.mono ?_; rintro e w1 ⟨rfl, rfl⟩)
        go_roundw
        case rel => exact ⟨m, str_val (head_ext m x _ HSS.out), by omega, ⟨by rw [HE.out, dropEnd_last, hfx]; rfl⟩, by first | rfl | trivial⟩
        case measure =>
          have hz := HSZ.out
          simp [ByteArray.size_extract]
          omega
end Go.Proofs.YtgabpbnndikheaaGreatDoor

set_option linter.constructorNameAsVariable false
/-! strings.Trim by a set of several ASCII bytes. -/
namespace Go.Proofs.YtgabpbnndikheaaGreatDoor
open Go.RowKit Go.Proofs.YtgabpbnndikheaaGreatDoorW.PrintWords

def trimB (f : UInt8 → Bool) (l : List UInt8) : List UInt8 := (dropEnd f l).dropWhile f
theorem setAt_cells {w : World} {b t : Nat} {l : List UInt8} (h : w.heap[b]? = some (.cells (Lib.setCells l) t (0, 0))) : SetAt w b (fun x => l.contains x) := by
  intro x
  unfold World.cell?
  rw [h]
  simp [Lib.setCells_at]
theorem zero_set (w : World) : (zeroValue 123).run Tryz.prog w = .ok (.agg (Array.replicate 256 (.bool false))) w := by
  go_simp
  kernel_rfl
theorem set_one (l : List UInt8) : (Lib.setCells l).all (·.oneCell') = true := by
  rw [Lib.setCells_eq, Array.all_map]
  apply Array.all_eq_true.2
  intro i hi
  rfl
set_option maxHeartbeats 1000000 in
set_option maxRecDepth 100000 in
theorem trim_any (l : List UInt8) (cut : ByteArray) (w : World) (hl : l ≠ []) (hm : l.length ≤ 9223372036854775807) (hc1 : 2 ≤ cut.size) (hc2 : cut.size < 4294967281) (hascii : ∀ (j : Nat) b, cut.data.toList[j]? = some b → b.toNat < 128) :
    Calls Tryz.prog 75 #[.string ⟨l.toArray⟩, .string cut] w fun e w' => e = .returned (.string ⟨(trimB (fun x => cut.data.toList.contains x) l).toArray⟩) ∧ Below w.heap.size w w' := by
  have HM := Aside0.mk (fun W => Tryz.strings_makeASCIISet zero_set cut W hc2 hascii)
  obtain ⟨s, hs⟩ : ∃ s : ByteArray, s = ⟨l.toArray⟩ := ⟨_, rfl⟩
  have hsz : s.size = l.length := by rw [hs]; simp [ByteArray.size]
  have hs1 : s.toList ≠ [] := by rw [ByteArray.toList_eq, hs]; simpa using hl
  have hs2 : s.toList.isEmpty = false := by simpa using hs1
  have hs3 : cut.toList ≠ [] := by
    rw [ByteArray.toList_eq]
    intro e
    have : cut.data.toList.length = 0 := by rw [e]; rfl
    rw [Array.length_toList] at this
    have h2 : cut.size = cut.data.size := rfl
    omega
  have hs4 : cut.toList.isEmpty = false := by simpa using hs3
  have h1 : ((cut.size : Int) == 1) = false := by simp; omega
  have hz := Lib.setCells_size cut.data.toList
  have hst := run_storeCells_new (P := Tryz.prog) (w.alloc (.cells (Lib.setCells cut.data.toList) 123)) 123 Tryz.zeroCells123 (Lib.setCells cut.data.toList) (by rw [hz]; kernel_rfl) (by rw [hz]; kernel_rfl) (set_one _)
  rw [World.size_alloc] at hst
  have HSS := Aside0.mk hs
  have hT : SetAt ((w.alloc (.cells (Lib.setCells cut.data.toList) 123)).alloc (.cells (Lib.setCells cut.data.toList) 123)) (w.heap.size + 1) (fun x => cut.data.toList.contains x) := by
    have := heap_alloc_new (w.alloc (.cells (Lib.setCells cut.data.toList) 123)) (.cells (Lib.setCells cut.data.toList) 123)
    rw [World.size_alloc] at this
    exact setAt_cells this
  have t1 := trimR_any (fun x => cut.data.toList.contains x) l (w.heap.size + 1) _ hT hm
  have hd2 : (dropEnd (fun x => cut.data.toList.contains x) l).length ≤ 9223372036854775807 := by
    unfold dropEnd
    rw [List.length_reverse]
    have := (List.dropWhile_suffix (fun x => cut.data.toList.contains x) (l := l.reverse)).length_le
    rw [List.length_reverse] at this
    omega
  have t2 := trimL_any (fun x => cut.data.toList.contains x) (dropEnd (fun x => cut.data.toList.contains x) l) (w.heap.size + 1) _ hT hd2
  rw [← hs] at t1
  obtain ⟨f, hf⟩ : ∃ f : UInt8 → Bool, f = fun x => cut.data.toList.contains x := ⟨_, rfl⟩
  rw [← hf] at t1 t2 ⊢
  have T1 := Aside0.mk t1
  have T2 := Aside0.mk t2
  rw [← hs]
  clear hs hsz hascii t1 t2 hT hd2 hf
  go_enter Tryz.func75, Tryz.ntmps75
  go_wp2_with (first
    | (go_at_call 95; refine (HM.out _).mono ?_; rintro e w1 ⟨rfl, hw1⟩)
    | (go_at_call 97; (with_reducible refine T1.out.mono ?_); rintro e w2 ⟨rfl, rfl⟩)
    | (go_at_call 96; (with_reducible refine T2.out.mono ?_); rintro e w3 ⟨rfl, rfl⟩))
  go_ret
  exact ⟨rfl, below_alloc' (below_alloc' (Below.refl _ _) _) _⟩
end Go.Proofs.YtgabpbnndikheaaGreatDoor

set_option linter.constructorNameAsVariable false
/-! The reference's names: the predicate of runes, the plain law of trimming. -/
namespace Go.Proofs.YtgabpbnndikheaaGreatDoor
open Go.RowKit Go.Proofs.YtgabpbnndikheaaGreatDoorW.PrintWords

def runeOk (n : Nat) : Bool := (decide (97 ≤ n) && decide (n ≤ 122)) || (decide (48 ≤ n) && decide (n ≤ 57)) || (n == 95)
theorem runeOk_cases (n : Nat) : (runeOk n = true ∧ (97 ≤ n ∧ n ≤ 122 ∨ (n < 97 ∧ 48 ≤ n ∧ n ≤ 57) ∨ n = 95)) ∨ (runeOk n = false ∧ (n < 48 ∨ (n < 97 ∧ 57 < n ∧ n ≠ 95) ∨ 122 < n)) := by
  unfold runeOk
  by_cases h1 : 97 ≤ n ∧ n ≤ 122
  · left; simp [h1.1, h1.2]
  by_cases h2 : 48 ≤ n ∧ n ≤ 57
  · left; simp [h2.1, h2.2]; omega
  by_cases h3 : n = 95
  · left; subst h3; simp
  · right; simp; omega
set_option maxHeartbeats 1000000 in
set_option maxRecDepth 100000 in
theorem runeBad_any (n : Nat) (w : World) (hn : n ≤ 1114111) :
    Calls Tryz.prog 77 #[.int .i32 n] w fun e w' => e = .returned (.bool (!runeOk n)) ∧ w = w' := by
  rcases runeOk_cases n with ⟨h, hc⟩ | ⟨h, hc⟩
  · have hq : (decide ((97 : Int) ≤ (n : Int)) = true ∧ decide ((n : Int) ≤ 122) = true) ∨ (decide ((97 : Int) ≤ (n : Int)) = false ∧ decide ((48 : Int) ≤ (n : Int)) = true ∧ decide ((n : Int) ≤ 57) = true) ∨ (decide ((97 : Int) ≤ (n : Int)) = false ∧ decide ((48 : Int) ≤ (n : Int)) = true ∧ decide ((n : Int) ≤ 57) = false ∧ ((n : Int) == 95) = true) := by
      simp only [decide_eq_true_eq, decide_eq_false_iff_not, beq_iff_eq]
      omega
    rw [h]
    clear hc h
    rcases hq with ⟨h1, h2⟩ | ⟨h1, h2, h3⟩ | ⟨h1, h2, h3, h4⟩
    all_goals
      go_enter Tryz.func77, Tryz.ntmps77
      go_wp2
      go_ret
      exact ⟨rfl, rfl⟩
  · have hq : (decide ((97 : Int) ≤ (n : Int)) = false ∧ decide ((48 : Int) ≤ (n : Int)) = false ∧ ((n : Int) == 95) = false) ∨ (decide ((97 : Int) ≤ (n : Int)) = false ∧ decide ((48 : Int) ≤ (n : Int)) = true ∧ decide ((n : Int) ≤ 57) = false ∧ ((n : Int) == 95) = false) ∨ (decide ((97 : Int) ≤ (n : Int)) = true ∧ decide ((n : Int) ≤ 122) = false ∧ decide ((48 : Int) ≤ (n : Int)) = true ∧ decide ((n : Int) ≤ 57) = false ∧ ((n : Int) == 95) = false) := by
      simp only [decide_eq_true_eq, decide_eq_false_iff_not, beq_eq_false_iff_ne, ne_eq]
      omega
    rw [h]
    clear hc h
    rcases hq with ⟨h1, h2, h3⟩ | ⟨h1, h2, h3, h4⟩ | ⟨h1, h2, h3, h4, h5⟩
    all_goals
      go_enter Tryz.func77, Tryz.ntmps77
      go_wp2
      go_ret
      exact ⟨rfl, rfl⟩
theorem dw_nil {f : UInt8 → Bool} : ∀ {l : List UInt8}, l.dropWhile f = [] ↔ ∀ x ∈ l, f x = true
  | [] => by simp
  | a :: l => by
    rw [List.dropWhile_cons]
    by_cases h : f a = true
    · rw [if_pos h, dw_nil]
      simp [h]
    · rw [if_neg h]
      simp [h]
theorem dropEnd_nil {f : UInt8 → Bool} {l : List UInt8} : dropEnd f l = [] ↔ l.all f = true := by
  unfold dropEnd
  rw [List.reverse_eq_nil_iff, List.all_eq_true]
  constructor
  · intro h x hx
    have := dw_nil.1 h x (List.mem_reverse.2 hx)
    exact this
  · intro h
    exact dw_nil.2 fun x hx => h x (List.mem_reverse.1 hx)
theorem trimB_nil {f : UInt8 → Bool} {l : List UInt8} : trimB f l = [] ↔ l.all f = true := by
  unfold trimB
  constructor
  · intro h
    have h1 := dw_nil.1 h
    rcases List.eq_nil_or_concat (dropEnd f l) with he | ⟨m, x, he⟩
    · exact dropEnd_nil.1 he
    · exfalso
      have hx : f x = true := h1 x (by rw [he]; simp)
      have hr : dropEnd f l = (l.reverse.dropWhile f).reverse := rfl
      rw [he, List.concat_eq_append] at hr
      have h2 := congrArg List.reverse hr
      rw [List.reverse_append, List.reverse_reverse] at h2
      simp only [List.reverse_cons, List.reverse_nil, List.nil_append, List.singleton_append] at h2
      have h3 := List.head?_dropWhile_not f l.reverse
      rw [← h2] at h3
      simp at h3
      rw [h3] at hx
      cases hx
  · intro h
    rw [dropEnd_nil.2 h]
    rfl
end Go.Proofs.YtgabpbnndikheaaGreatDoor

set_option linter.constructorNameAsVariable false
/-! The reference's names. -/
namespace Go.Proofs.YtgabpbnndikheaaGreatDoor
open Go.RowKit Go.Proofs.YtgabpbnndikheaaGreatDoorW.PrintWords

def letters : ByteArray := ⟨#[97, 98, 99, 100, 101, 102, 103, 104, 105, 106, 107, 108, 109, 110, 111, 112, 113, 114, 115, 116, 117, 118, 119, 120, 121, 122]⟩
def signs : ByteArray := ⟨#[97, 98, 99, 100, 101, 102, 103, 104, 105, 106, 107, 108, 109, 110, 111, 112, 113, 114, 115, 116, 117, 118, 119, 120, 121, 122, 48, 49, 50, 51, 52, 53, 54, 55, 56, 57, 95]⟩
def letterB (y : UInt8) : Bool := decide (97 ≤ y.toNat) && decide (y.toNat ≤ 122)
def signB (y : UInt8) : Bool := runeOk y.toNat
set_option maxRecDepth 100000 in
theorem letters_eq : (fun x => letters.data.toList.contains x) = letterB := by
  funext y
  have h := (by decide : ∀ n : Fin 256, (letters.data.toList.contains (UInt8.ofNat n.val)) = letterB (UInt8.ofNat n.val)) ⟨y.toNat, y.toNat_lt⟩
  rwa [UInt8.ofNat_toNat] at h
set_option maxRecDepth 100000 in
theorem signs_eq : (fun x => signs.data.toList.contains x) = signB := by
  funext y
  have h := (by decide : ∀ n : Fin 256, (signs.data.toList.contains (UInt8.ofNat n.val)) = signB (UInt8.ofNat n.val)) ⟨y.toNat, y.toNat_lt⟩
  rwa [UInt8.ofNat_toNat] at h
theorem ba_list (s : ByteArray) : (⟨s.data.toList.toArray⟩ : ByteArray) = s := by apply ByteArray.ext; simp
theorem isEmpty_of (l : List UInt8) : (⟨l.toArray⟩ : ByteArray).toList.isEmpty = l.isEmpty := by rw [ByteArray.toList_eq]
theorem trimB_empty (f : UInt8 → Bool) (l : List UInt8) : (trimB f l).isEmpty = l.all f := by
  rw [Bool.eq_iff_iff, List.isEmpty_iff]
  exact trimB_nil
theorem ascii_letters : ∀ (j : Nat) b, letters.data.toList[j]? = some b → b.toNat < 128 := by
  intro j b h
  have := (by decide : ∀ b ∈ letters.data.toList, b.toNat < 128) b (List.mem_of_getElem? h)
  exact this
theorem ascii_signs : ∀ (j : Nat) b, signs.data.toList[j]? = some b → b.toNat < 128 := by
  intro j b h
  have := (by decide : ∀ b ∈ signs.data.toList, b.toNat < 128) b (List.mem_of_getElem? h)
  exact this
theorem trimLetters_any (l : List UInt8) (w : World) (hl : l ≠ []) (hm : l.length ≤ 9223372036854775807) :
    Calls Tryz.prog 75 #[.string ⟨l.toArray⟩, .string ⟨#[97, 98, 99, 100, 101, 102, 103, 104, 105, 106, 107, 108, 109, 110, 111, 112, 113, 114, 115, 116, 117, 118, 119, 120, 121, 122]⟩] w fun e w' => e = .returned (.string ⟨(trimB letterB l).toArray⟩) ∧ Below w.heap.size w w' := by
  have := trim_any l letters w hl hm (by decide) (by decide) ascii_letters
  rw [letters_eq] at this
  exact this
theorem trimSigns_any (l : List UInt8) (w : World) (hl : l ≠ []) (hm : l.length ≤ 9223372036854775807) :
    Calls Tryz.prog 75 #[.string ⟨l.toArray⟩, .string ⟨#[97, 98, 99, 100, 101, 102, 103, 104, 105, 106, 107, 108, 109, 110, 111, 112, 113, 114, 115, 116, 117, 118, 119, 120, 121, 122, 48, 49, 50, 51, 52, 53, 54, 55, 56, 57, 95]⟩] w fun e w' => e = .returned (.string ⟨(trimB signB l).toArray⟩) ∧ Below w.heap.size w w' := by
  have := trim_any l signs w hl hm (by decide) (by decide) ascii_signs
  rw [signs_eq] at this
  exact this
theorem idxFunc_none (s : ByteArray) (h : s.data.toList.all signB = true) : Lib.idxFunc (fun n => !runeOk n) true s = -1 := by
  unfold Lib.idxFunc
  have key : ∀ f pos, Lib.idxFuncFrom (fun n => !runeOk n) true s f pos = -1 := by
    intro f
    induction f with
    | zero => intro pos; rfl
    | succ f ih =>
      intro pos
      unfold Lib.idxFuncFrom
      by_cases hp : pos < s.size
      · rw [if_pos hp]
        have hx : signB s[pos] = true := List.all_eq_true.1 h _ (by rw [← ba_get s pos hp]; exact List.getElem_mem _)
        have hlt : (s[pos]).toNat < 128 := by
          unfold signB at hx
          rcases runeOk_cases s[pos].toNat with ⟨_, hc⟩ | ⟨hb, _⟩
          · omega
          · rw [hb] at hx; cases hx
        rw [decode_ascii s pos hp hlt, if_neg]
        · exact ih _
        · unfold signB at hx
          simp [hx]
      · rw [if_neg hp]
  exact key _ _
theorem nameC_sign {z : Bool} {n : Nat} (h : nameC z n = true) : runeOk n = true := by
  unfold nameC at h
  unfold runeOk
  cases z
  · simp at h ⊢; omega
  · simp at h ⊢; omega
theorem sign_nameC {n : Nat} (h : runeOk n = true) : nameC true n = true := by
  unfold runeOk at h
  unfold nameC
  simp at h ⊢
  omega
theorem nameUpto_all {s : ByteArray} {n : Nat} (h : ∀ i, i < n → nameC (decide (0 < i)) (bt s i) = true) : nameUpto s n = true := by
  unfold nameUpto
  rw [List.all_eq_true]
  intro i hi
  exact h i (List.mem_range.1 hi)
theorem nameUpto_at {s : ByteArray} {n i : Nat} (h : nameUpto s n = true) (hi : i < n) : nameC (decide (0 < i)) (bt s i) = true := List.all_eq_true.1 h i (List.mem_range.2 hi)
theorem nameOk_law (s : ByteArray) (h0 : 0 < s.size) (h12 : s.size ≤ 12) : nameOk s = (letterB s[0] && s.data.toList.all signB) := by
  unfold nameOk
  rw [show decide (1 ≤ s.size) = true by simp; omega, show decide (s.size ≤ 12) = true by simp; omega, Bool.and_self, Bool.and_true]
  have hb0 : bt s 0 = s[0].toNat := bt_get h0
  rw [Bool.eq_iff_iff, Bool.and_eq_true]
  constructor
  · intro h
    constructor
    · have := nameUpto_at h h0
      rw [hb0] at this
      unfold nameC at this
      unfold letterB
      simpa using this
    · rw [List.all_eq_true]
      intro x hx
      obtain ⟨i, hi, rfl⟩ := List.getElem_of_mem hx
      have hi' : i < s.size := by simpa using hi
      have := nameUpto_at h hi'
      rw [bt_get hi'] at this
      exact nameC_sign this
  · intro ⟨h1, h2⟩
    refine nameUpto_all fun i hi => ?_
    rw [bt_get hi]
    by_cases hz : i = 0
    · subst hz
      unfold letterB at h1
      unfold nameC
      rw [h1, Bool.true_or]
    · have hx : signB s[i] = true := List.all_eq_true.1 h2 _ (by rw [← ba_get s i hi]; exact List.getElem_mem _)
      rw [show decide (0 < i) = true by simp; omega]
      exact sign_nameC hx
set_option maxHeartbeats 2000000 in
set_option maxRecDepth 100000 in
theorem rname_any (s : ByteArray) (w : World) (hm : s.size ≤ 9223372036854775807) :
    Calls Tryz.prog 61 #[.string s] w fun e w' => e = .returned (.bool (nameOk s)) ∧ Below w.heap.size w w' := by
  by_cases h0 : s.size = 0
  · have he : s = ⟨#[]⟩ := by apply ByteArray.ext; apply Array.eq_empty_of_size_eq_zero; exact h0
    subst he
    have hn : nameOk ⟨#[]⟩ = false := by rfl
    rw [hn]
    clear hn h0 hm
    go_enter Tryz.func61, Tryz.ntmps61
    go_wp2
    go_ret
    exact ⟨rfl, Below.refl _ _⟩
  have hs1 : s.toList ≠ [] := by
    rw [ByteArray.toList_eq]
    intro e
    have : s.data.toList.length = 0 := by rw [e]; rfl
    rw [Array.length_toList] at this
    exact h0 this
  have hs2 : s.toList.isEmpty = false := by simpa using hs1
  by_cases h12 : 12 < s.size
  · have hn : nameOk s = false := by unfold nameOk; rw [show decide (s.size ≤ 12) = false by simp; omega, Bool.and_false, Bool.and_false]
    have d12 : decide ((12 : Int) < (s.size : Int)) = true := by simp; omega
    rw [hn]
    go_enter Tryz.func61, Tryz.ntmps61
    go_wp2
    go_ret
    exact ⟨rfl, Below.refl _ _⟩
  have d12 : decide ((12 : Int) < (s.size : Int)) = false := by simp; omega
  have hlaw := nameOk_law s (by omega) (by omega)
  obtain ⟨R, hR⟩ : ∃ R, R = nameOk s := ⟨_, rfl⟩
  rw [← hR]
  rw [hlaw] at hR
  have HD := Aside0.mk hR
  clear hR hlaw
  have hex : s.extract 0 1 = ⟨[s[0]].toArray⟩ := by
    apply ByteArray.ext
    rw [ByteArray.data_extract]
    apply Array.toList_inj.1
    rw [Array.toList_extract]
    have hl : s.data.toList = s[0] :: s.data.toList.tail := by
      have := List.drop_eq_getElem_cons (l := s.data.toList) (i := 0) (by simp; exact Nat.pos_of_ne_zero h0)
      rw [List.drop_zero] at this
      rw [this, ba_get s 0 (by omega)]
      rfl
    rw [hl]
    simp [List.extract_eq_take_drop]
  have hle : (1 : Nat) ≤ s.size := by omega
  have t1 := fun W => trimLetters_any [s[0]] W (by simp) (by simp)
  have t2 := fun W => trimSigns_any s.data.toList W (by rw [← ByteArray.toList_eq]; exact hs1) (by simpa using hm)
  rw [← hex] at t1
  rw [ba_list] at t2
  have i1 := isEmpty_of (trimB letterB [s[0]])
  have i2 := isEmpty_of (trimB signB s.data.toList)
  rw [trimB_empty] at i1 i2
  simp only [List.all_cons, List.all_nil, Bool.and_true] at i1
  have hidx := idxFunc_none s
  generalize (⟨(trimB letterB [s[0]]).toArray⟩ : ByteArray) = r1 at *
  generalize (⟨(trimB signB s.data.toList).toArray⟩ : ByteArray) = r2 at *
  generalize letterB s[0] = b1 at *
  generalize s.data.toList.all signB = b2 at *
  have T1 := Aside0.mk t1
  have T2 := Aside0.mk t2
  clear t1 t2 hex
  cases b1
  · have j1 : ¬ r1.toList = [] := by intro e; rw [e] at i1; cases i1
    go_enter Tryz.func61, Tryz.ntmps61
    go_wp2_with (go_at_call 75; (with_reducible refine (T1.out _).mono ?_); rintro e w1 ⟨rfl, hB⟩; have HB1 := Aside0.mk hB; clear hB)
    go_ret
    exact ⟨bool_ret (by rw [HD.out]; rfl), HB1.out⟩
  · have j1 : r1.toList = [] := by simpa using i1
    cases b2
    · have j2 : ¬ r2.toList = [] := by intro e; rw [e] at i2; cases i2
      go_enter Tryz.func61, Tryz.ntmps61
      go_wp2_with (first
        | (go_at_call 75; (with_reducible refine (T1.out _).mono ?_); rintro e w1 ⟨rfl, hB⟩; have HB1 := Aside0.mk hB; clear hB)
        | (go_at_call 75; (with_reducible refine (T2.out _).mono ?_); rintro e w2 ⟨rfl, hB⟩; have HB2 := Aside0.mk (below_call HB1.out hB); clear hB))
      go_ret
      exact ⟨bool_ret (by rw [HD.out]; rfl), HB2.out⟩
    · have j2 : r2.toList = [] := by simpa using i2
      have C := Aside0.mk (fun W => Tryz.strings_ContainsFunc_grows 77 #[] (fun _ _ => by go_simp) (fun n => !runeOk n) s W (fun W' x hx hb => (runeBad_any x W' hx).mono fun e w' ⟨he, hw⟩ => ⟨he, hw ▸ Below.refl _ _⟩))
      rw [hidx rfl] at C
      go_enter Tryz.func61, Tryz.ntmps61
      go_wp2_with (first
        | (go_at_call 75; (with_reducible refine (T1.out _).mono ?_); rintro e w1 ⟨rfl, hB⟩; have HB1 := Aside0.mk hB; clear hB)
        | (go_at_call 75; (with_reducible refine (T2.out _).mono ?_); rintro e w2 ⟨rfl, hB⟩; have HB2 := Aside0.mk (below_call HB1.out hB); clear hB)
        | (go_at_call 76; refine (C.out _).mono ?_; rintro e w3 ⟨rfl, hB⟩; have HB3 := Aside0.mk (below_call HB2.out hB); clear hB))
      go_ret
      exact ⟨bool_ret (by rw [HD.out]; rfl), HB3.out⟩
end Go.Proofs.YtgabpbnndikheaaGreatDoor


/-! Names, as the walk calls them. -/
namespace Go.Proofs.YtgabpbnndikheaaGreatDoor.I
open Go.RowKit
set_option linter.unusedVariables false
noncomputable def r36 (x : (kdP [.str]).T) : Option (kdP [.bool]).T := cond (decide (x.1.size ≤ 9223372036854775807)) (some (nameOk x.1, ())) none
noncomputable def r61 (x : (kdP [.str]).T) : Option (kdP [.bool]).T := cond (decide (x.1.size ≤ 9223372036854775807)) (some (nameOk x.1, ())) none
theorem r36_ok {N : Nat} {G : World → Prop} : PureOk Tryz.prog N G 36 [.str] [.bool] r36 := by
  refine pure_of_calls (by kernel_rfl) rfl (fun w x y vals hr hy => ?_) rfl
  obtain ⟨s, ⟨⟩⟩ := x
  have h0 := hr [] (fun _ => none) (fun _ => False)
  obtain ⟨v, vs, rfl, h1, h2⟩ := h0
  have h1 : v = .string s := h1
  have h2 : vs = [] := h2
  subst h1 h2
  unfold r36 at hy
  cases hd : decide (s.size ≤ 9223372036854775807) with
  | false => rw [hd] at hy; cases hy
  | true =>
    rw [hd] at hy
    injection hy with hy
    subst hy
    refine (name_any s w (of_decide_eq_true hd)).mono ?_
    rintro e w' ⟨rfl, rfl⟩
    exact ⟨_, rfl, Below.refl _ _, rfl⟩
theorem r61_ok {N : Nat} {G : World → Prop} : PureOk Tryz.prog N G 61 [.str] [.bool] r61 := by
  refine pure_of_calls (by kernel_rfl) rfl (fun w x y vals hr hy => ?_) rfl
  obtain ⟨s, ⟨⟩⟩ := x
  have h0 := hr [] (fun _ => none) (fun _ => False)
  obtain ⟨v, vs, rfl, h1, h2⟩ := h0
  have h1 : v = .string s := h1
  have h2 : vs = [] := h2
  subst h1 h2
  unfold r61 at hy
  cases hd : decide (s.size ≤ 9223372036854775807) with
  | false => rw [hd] at hy; cases hy
  | true =>
    rw [hd] at hy
    injection hy with hy
    subst hy
    refine (rname_any s w (of_decide_eq_true hd)).mono ?_
    rintro e w' ⟨rfl, hb⟩
    exact ⟨_, rfl, hb, rfl⟩
end Go.Proofs.YtgabpbnndikheaaGreatDoor.I

/-! Numbers as texts, texts joined, as the walk calls them. -/
namespace Go.Proofs.YtgabpbnndikheaaGreatDoor.I
open Go.RowKit
set_option linter.unusedVariables false
set_option linter.constructorNameAsVariable false
/-- What the calls rely on: the table of the powers of ten. -/
noncomputable def gG (w : World) : Prop := Lib.TabIs Tryz.prog w "internal/strconv.uint64pow10" .u64 Lib.pow10Tab
noncomputable def nG : Nat := match Tryz.prog.globalNamed "internal/strconv.uint64pow10" with
  | some g => g + 1
  | none => 0
theorem stays_G : Stays nG gG := by
  intro w w' h hg
  unfold gG Lib.TabIs World.var? at hg ⊢
  cases hn : Tryz.prog.globalNamed "internal/strconv.uint64pow10" with
  | none => rw [hn] at hg; cases hg
  | some g =>
    rw [hn] at hg
    simp only [Option.bind_some] at hg ⊢
    rw [h g (by unfold nG; rw [hn]; simp)]
    exact hg
theorem nG_le {w : World} (h : gG w) : nG ≤ w.heap.size := by
  unfold gG Lib.TabIs World.var? at h
  unfold nG
  cases hn : Tryz.prog.globalNamed "internal/strconv.uint64pow10" with
  | none => exact Nat.zero_le _
  | some g =>
    rw [hn] at h
    simp only [Option.bind_some] at h
    split at h
    · rename_i hb
      exact heap_lt hb
    · cases h
theorem below_grown (w : World) (k : Nat) (os : Array Obj) : Below w.heap.size w (Sort.grow (w.drewN k) os) := by
  refine Below.trans (b := w.drewN k) ?_ ⟨rfl, rfl, rfl, ?_, fun i hi => ?_⟩
  · exact ⟨rfl, rfl, rfl, Nat.le_refl _, fun _ _ => rfl⟩
  · show w.heap.size ≤ (w.heap ++ os).size
    rw [Array.size_append]; omega
  · show (w.heap ++ os)[i]? = _
    rw [Array.getElem?_append_left hi]
    rfl
def i64B (x : Int) : Bool := decide (-9223372036854775808 ≤ x ∧ x ≤ 9223372036854775807)
noncomputable def r28 (x : (kdP [(.int .i64)]).T) : Option (kdP [.str]).T := cond (i64B x.1) (some (⟨(Lib.itoa x.1).toArray⟩, ())) none
theorem r28_ok : PureOk Tryz.prog nG gG 28 [(.int .i64)] [.str] r28 := by
  refine ⟨by kernel_rfl, fun X w x y vals hX hG hN hr hy => ?_⟩
  obtain ⟨n, ⟨⟩⟩ := x
  obtain ⟨v, vs, rfl, h1, h2⟩ := hr
  have h1 : v = .int .i64 n := h1
  have h2 : vs = [] := h2
  subst h1 h2
  unfold r28 at hy
  cases hd : i64B n with
  | false => rw [hd] at hy; cases hy
  | true =>
    rw [hd] at hy
    injection hy with hy
    subst hy
    obtain ⟨g0, g1⟩ := of_decide_eq_true hd
    refine (Tryz.strconv_Itoa n g0 g1 w hG).mono ?_
    rintro e w' ⟨rfl, k, os, rfl⟩
    exact ⟨_, rfl, chg_of_below (below_grown w k os), rfl⟩
noncomputable def r56 (x : (kdP [(.int .i64), (.int .i64)]).T) : Option (kdP [.str]).T := cond (i64B x.1 && decide (x.2.1 = 10)) (some (⟨(Lib.itoa x.1).toArray⟩, ())) none
theorem r56_ok : PureOk Tryz.prog nG gG 56 [(.int .i64), (.int .i64)] [.str] r56 := by
  refine ⟨by kernel_rfl, fun X w x y vals hX hG hN hr hy => ?_⟩
  obtain ⟨n, b, ⟨⟩⟩ := x
  obtain ⟨v, vs, rfl, h1, v2, vs2, rfl, h2, h3⟩ := hr
  have h1 : v = .int .i64 n := h1
  have h2 : v2 = .int .i64 b := h2
  have h3 : vs2 = [] := h3
  subst h1 h2 h3
  unfold r56 at hy
  cases hd : (i64B n && decide (b = 10)) with
  | false => rw [hd] at hy; cases hy
  | true =>
    rw [hd] at hy
    injection hy with hy
    subst hy
    simp only [Bool.and_eq_true, decide_eq_true_eq] at hd
    obtain ⟨hd, rfl⟩ := hd
    obtain ⟨g0, g1⟩ := of_decide_eq_true hd
    refine (Tryz.strconv_FormatInt_10 n g0 g1 w hG).mono ?_
    rintro e w' ⟨rfl, k, os, rfl⟩
    exact ⟨_, rfl, chg_of_below (below_grown w k os), rfl⟩
noncomputable def r38 (x : (kdP [.bool]).T) : Option (kdP [.str]).T := some (⟨(Lib.formatBool x.1).toArray⟩, ())
theorem r38_ok {N : Nat} {G : World → Prop} : PureOk Tryz.prog N G 38 [.bool] [.str] r38 := by
  refine ⟨by kernel_rfl, fun X w x y vals hX hG hN hr hy => ?_⟩
  obtain ⟨n, ⟨⟩⟩ := x
  obtain ⟨v, vs, rfl, h1, h2⟩ := hr
  have h1 : v = .bool n := h1
  have h2 : vs = [] := h2
  subst h1 h2
  injection hy with hy
  subst hy
  refine (Tryz.strconv_FormatBool n w).mono ?_
  rintro e w' ⟨rfl, rfl⟩
  exact ⟨_, rfl, Chg.refl _ _, rfl⟩
def joinB (xs : List ByteArray) (sep : ByteArray) : List UInt8 := Lib.join (xs.map (·.data.toList)) sep.data.toList
noncomputable def r32 (x : (kdP [(.slice .str), .str]).T) : Option (kdP [.str]).T := cond (decide (List.length (α := ByteArray) x.1 ≤ 140737488355328 ∧ (joinB x.1 x.2.1).length ≤ 140737488355328)) (some (⟨(joinB x.1 x.2.1).toArray⟩, ())) none
theorem r32_ok {N : Nat} {G : World → Prop} : PureOk Tryz.prog N G 32 [(.slice .str), .str] [.str] r32 := by
  refine ⟨by kernel_rfl, fun X w x y vals hX hG hN hr hy => ?_⟩
  obtain ⟨xs, sep, ⟨⟩⟩ := x
  obtain ⟨v, vs, rfl, h1, v2, vs2, rfl, h2, h3⟩ := hr
  have h2 : v2 = .string sep := h2
  have h3 : vs2 = [] := h3
  subst h2 h3
  have h1 : sliceRep w X (rep w X .str) xs v := h1
  unfold r32 at hy
  cases hd : decide (List.length (α := ByteArray) xs ≤ 140737488355328 ∧ (joinB xs sep).length ≤ 140737488355328) with
  | false => simp only [hd] at hy; cases hy
  | true =>
    simp only [hd, cond_true] at hy
    injection hy with hy
    subst hy
    obtain ⟨g0, g1⟩ := of_decide_eq_true hd
    obtain ⟨A, cap, rfl, hc, hne⟩ := h1
    by_cases hx : xs = []
    · subst hx
      refine (Tryz.strings_Join_none A cap sep w).mono ?_
      rintro e w' ⟨rfl, rfl⟩
      exact ⟨_, rfl, Chg.refl _ _, rfl⟩
    · obtain ⟨ad, rfl, hsp, _, c, t, fr, hb, hreps⟩ := hne hx
      obtain ⟨ab, ao, asp⟩ := ad
      simp only at hsp hb hreps
      subst hsp
      refine (Tryz.strings_Join ab ao cap xs sep w (fun j x hj => ?_) (heap_lt hb) g0 hc g1).mono ?_
      · obtain ⟨u, k1, k2⟩ := reps_at (fun x u hh => rep_len hh) hreps hj
        simp only [rep] at k1
        subst k1
        rw [cell_blk hb]
        simp only [Kd.wd, Nat.mul_one] at k2
        have : ((c.toList.drop ao).drop j)[0]? = some (.string x) := by
          have := congrArg (fun l => l[0]?) k2
          simp only [List.getElem?_take] at this
          simpa using this
        simpa using this
      · rintro e w' ⟨rfl, hbl⟩
        exact ⟨_, rfl, chg_of_below hbl, rfl⟩
end Go.Proofs.YtgabpbnndikheaaGreatDoor.I

/-! What the functions compute: printed by the tool Gen out of the program's text; each theorem says that the function's calls do that. -/
namespace Go.Proofs.YtgabpbnndikheaaGreatDoor.I
open Go.RowKit
set_option linter.unusedVariables false
set_option maxRecDepth 100000
/-- terrier/terrlaw2.dot -/
noncomputable def r24 (x : (kdP []).T) : Option (kdP [(.slice (.pair (.int .i64) (.pair (.int .i64) (.pair (.slice (.slice (.pair (.int .i64) (.pair (.int .i64) .unit)))) (.pair (.slice (.pair .str (.pair (.pair (.int .i64) (.pair (.int .i64) (.pair .str (.pair .bool .unit)))) .unit))) (.pair (.int .i64) (.pair (.int .i64) .unit)))))))]).T :=
  (Option.some ((List.cons ((1 : Int), ((1 : Int), ((List.cons (List.cons ((3 : Int), ((4 : Int), Unit.unit)) (List.nil)) (List.nil)), ((List.nil), ((0 : Int), ((9 : Int), Unit.unit)))))) (List.nil)), Unit.unit))
theorem r24_ok : PureOk Go.Proofs.Tryz.prog nG gG 24 [] [(.slice (.pair (.int .i64) (.pair (.int .i64) (.pair (.slice (.slice (.pair (.int .i64) (.pair (.int .i64) .unit)))) (.pair (.slice (.pair .str (.pair (.pair (.int .i64) (.pair (.int .i64) (.pair .str (.pair .bool .unit)))) .unit))) (.pair (.int .i64) (.pair (.int .i64) .unit)))))))] r24 :=
  pureOk_of_run (F := specOf []) (hs := hintOf []) stays_G specOf_nil mixed Go.Proofs.Tryz.func24 rfl (by kernel_rfl) (fun _ => by kernel_rfl)

/-- terrier/feat.Parts$1 -/
noncomputable def r70 (x : (kdP [(.slice (.pair (.int .i64) (.pair (.int .i64) .unit)))]).T) : Option (kdP [.bool]).T :=
  (Option.some ((Decidable.decide (LT.lt (200 : Int) (Nat.cast (List.length x.1) : Int))), Unit.unit))
theorem r70_ok : PureOk Go.Proofs.Tryz.prog nG gG 70 [(.slice (.pair (.int .i64) (.pair (.int .i64) .unit)))] [.bool] r70 :=
  pureOk_of_run (F := specOf []) (hs := hintOf []) stays_G specOf_nil mixed Go.Proofs.Tryz.func70 rfl (by kernel_rfl) (fun _ => by kernel_rfl)

/-- slices.IndexFunc[[][]terrier/api.Point,[]terrier/api.Point] -/
noncomputable def r84_70 (x : (kdP [(.slice (.slice (.pair (.int .i64) (.pair (.int .i64) .unit)))), (.fn 70)]).T) : Option (kdP [(.int .i64)]).T :=
  (Option.bind (loop (D := (Prod (Kd.T (.pair (.int .i64) .unit)) (Kd.T .unit))) (O := (Sum (Kd.T (.pair (.pair (.int .i64) .unit) .unit)) (OutT (List.cons ((Ex3.exit 0), (Sh.mk (List.nil) (List.nil) (List.nil))) (List.nil))))) (fun x0 => (cond (Decidable.decide (LT.lt x0.1.1 (Nat.cast (List.length x.1) : Int))) (cond (inB x0.1.1 (List.length x.1)) (Option.bind (GetElem?.getElem? x.1 (Int.toNat x0.1.1)) (fun x1 => (Option.bind (r70 (x1, Unit.unit)) (fun x2 => (cond x2.1 (Option.some (Sum.inr (Sum.inl ((x0.1.1, Unit.unit), Unit.unit)))) (Option.some (Sum.inl (((IntKind.wrap IntKind.i64 (HAdd.hAdd x0.1.1 (1 : Int))), Unit.unit), Unit.unit)))))))) (Option.none)) (Option.some (Sum.inr (Sum.inr (Sum.inl (Unit.unit, Unit.unit))))))) (((0 : Int), Unit.unit), Unit.unit)) (sumE (fun x0 => (Option.some (x0.1.1, Unit.unit))) (sumE (fun x0 => (Option.some ((Neg.neg (1 : Int)), Unit.unit))) (emptyE))))
theorem r84_70_ok : PureOk Go.Proofs.Tryz.prog nG gG 84 [(.slice (.slice (.pair (.int .i64) (.pair (.int .i64) .unit)))), (.fn 70)] [(.int .i64)] r84_70 :=
  pureOk_of_run (F := specOf [(70, pureSpec [(.slice (.pair (.int .i64) (.pair (.int .i64) .unit)))] [.bool] r70)]) (hs := hintOf [(0, ⟨⟨[(8, .lf (.int .i64))], [], []⟩, [(.ret, ⟨[(4, .lf (.int .i64))], [], []⟩), ((.exit 0), ⟨[], [], []⟩)]⟩)]) stays_G (specOf_cons (PureOk.spec r70_ok) specOf_nil) mixed Go.Proofs.Tryz.func84 rfl (by kernel_rfl) (fun _ => by kernel_rfl)

/-- slices.ContainsFunc[[][]terrier/api.Point,[]terrier/api.Point] -/
noncomputable def r69_70 (x : (kdP [(.slice (.slice (.pair (.int .i64) (.pair (.int .i64) .unit)))), (.fn 70)]).T) : Option (kdP [.bool]).T :=
  (Option.bind (r84_70 (x.1, (Unit.unit, Unit.unit))) (fun x0 => (Option.some ((Decidable.decide (LE.le (0 : Int) x0.1)), Unit.unit))))
theorem r69_70_ok : PureOk Go.Proofs.Tryz.prog nG gG 69 [(.slice (.slice (.pair (.int .i64) (.pair (.int .i64) .unit)))), (.fn 70)] [.bool] r69_70 :=
  pureOk_of_run (F := specOf [(84, pickS [([70], pureSpec [(.slice (.slice (.pair (.int .i64) (.pair (.int .i64) .unit)))), (.fn 70)] [(.int .i64)] r84_70)])]) (hs := hintOf []) stays_G (specOf_cons (pickS_one (PureOk.spec r84_70_ok)) specOf_nil) mixed Go.Proofs.Tryz.func69 rfl (by kernel_rfl) (fun _ => by kernel_rfl)

/-- terrier/point.limit -/
noncomputable def r78 (x : (kdP [(.int .i64), (.int .i64)]).T) : Option (kdP [(.int .i64)]).T :=
  (Option.some ((maxI (IntKind.wrap IntKind.i64 (HSub.hSub (0 : Int) x.2.1)) (minI x.1 x.2.1)), Unit.unit))
theorem r78_ok : PureOk Go.Proofs.Tryz.prog nG gG 78 [(.int .i64), (.int .i64)] [(.int .i64)] r78 :=
  pureOk_of_run (F := specOf []) (hs := hintOf []) stays_G specOf_nil mixed Go.Proofs.Tryz.func78 rfl (by kernel_rfl) (fun _ => by kernel_rfl)

/-- terrier/point.Clamp -/
noncomputable def r63 (x : (kdP [(.pair (.int .i64) (.pair (.int .i64) .unit))]).T) : Option (kdP [(.pair (.int .i64) (.pair (.int .i64) .unit))]).T :=
  (Option.bind (r78 (x.1.1, ((1048576 : Int), Unit.unit))) (fun x0 => (Option.bind (r78 (x.1.2.1, ((1048576 : Int), Unit.unit))) (fun x1 => (Option.some ((x0.1, (x1.1, Unit.unit)), Unit.unit))))))
theorem r63_ok : PureOk Go.Proofs.Tryz.prog nG gG 63 [(.pair (.int .i64) (.pair (.int .i64) .unit))] [(.pair (.int .i64) (.pair (.int .i64) .unit))] r63 :=
  pureOk_of_run (F := specOf [(78, pureSpec [(.int .i64), (.int .i64)] [(.int .i64)] r78)]) (hs := hintOf []) stays_G (specOf_cons (PureOk.spec r78_ok) specOf_nil) mixed Go.Proofs.Tryz.func63 rfl (by kernel_rfl) (fun _ => by kernel_rfl)

/-- terrier/point.Ok -/
noncomputable def r87 (x : (kdP [(.pair (.int .i64) (.pair (.int .i64) .unit))]).T) : Option (kdP [.bool]).T :=
  (Option.bind (r63 ((x.1.1, (x.1.2.1, Unit.unit)), Unit.unit)) (fun x0 => (Option.some ((Bool.and (Decidable.decide (Eq x.1.1 x0.1.1)) (Decidable.decide (Eq x.1.2.1 x0.1.2.1))), Unit.unit))))
theorem r87_ok : PureOk Go.Proofs.Tryz.prog nG gG 87 [(.pair (.int .i64) (.pair (.int .i64) .unit))] [.bool] r87 :=
  pureOk_of_run (F := specOf [(63, pureSpec [(.pair (.int .i64) (.pair (.int .i64) .unit))] [(.pair (.int .i64) (.pair (.int .i64) .unit))] r63)]) (hs := hintOf []) stays_G (specOf_cons (PureOk.spec r63_ok) specOf_nil) mixed Go.Proofs.Tryz.func87 rfl (by kernel_rfl) (fun _ => by kernel_rfl)

/-- terrier/feat.points$1 -/
noncomputable def r86 (x : (kdP [(.pair (.int .i64) (.pair (.int .i64) .unit))]).T) : Option (kdP [.bool]).T :=
  (Option.bind (r87 ((x.1.1, (x.1.2.1, Unit.unit)), Unit.unit)) (fun x0 => (Option.some ((Bool.not x0.1), Unit.unit))))
theorem r86_ok : PureOk Go.Proofs.Tryz.prog nG gG 86 [(.pair (.int .i64) (.pair (.int .i64) .unit))] [.bool] r86 :=
  pureOk_of_run (F := specOf [(87, pureSpec [(.pair (.int .i64) (.pair (.int .i64) .unit))] [.bool] r87)]) (hs := hintOf []) stays_G (specOf_cons (PureOk.spec r87_ok) specOf_nil) mixed Go.Proofs.Tryz.func86 rfl (by kernel_rfl) (fun _ => by kernel_rfl)

/-- slices.IndexFunc[[]terrier/api.Point,terrier/api.Point] -/
noncomputable def r106_86 (x : (kdP [(.slice (.pair (.int .i64) (.pair (.int .i64) .unit))), (.fn 86)]).T) : Option (kdP [(.int .i64)]).T :=
  (Option.bind (loop (D := (Prod (Kd.T (.pair (.int .i64) .unit)) (Kd.T .unit))) (O := (Sum (Kd.T (.pair (.pair (.int .i64) .unit) .unit)) (OutT (List.cons ((Ex3.exit 0), (Sh.mk (List.nil) (List.nil) (List.nil))) (List.nil))))) (fun x0 => (cond (Decidable.decide (LT.lt x0.1.1 (Nat.cast (List.length x.1) : Int))) (cond (inB x0.1.1 (List.length x.1)) (Option.bind (GetElem?.getElem? x.1 (Int.toNat x0.1.1)) (fun x1 => (Option.bind (r86 ((x1.1, (x1.2.1, Unit.unit)), Unit.unit)) (fun x2 => (cond x2.1 (Option.some (Sum.inr (Sum.inl ((x0.1.1, Unit.unit), Unit.unit)))) (Option.some (Sum.inl (((IntKind.wrap IntKind.i64 (HAdd.hAdd x0.1.1 (1 : Int))), Unit.unit), Unit.unit)))))))) (Option.none)) (Option.some (Sum.inr (Sum.inr (Sum.inl (Unit.unit, Unit.unit))))))) (((0 : Int), Unit.unit), Unit.unit)) (sumE (fun x0 => (Option.some (x0.1.1, Unit.unit))) (sumE (fun x0 => (Option.some ((Neg.neg (1 : Int)), Unit.unit))) (emptyE))))
theorem r106_86_ok : PureOk Go.Proofs.Tryz.prog nG gG 106 [(.slice (.pair (.int .i64) (.pair (.int .i64) .unit))), (.fn 86)] [(.int .i64)] r106_86 :=
  pureOk_of_run (F := specOf [(86, pureSpec [(.pair (.int .i64) (.pair (.int .i64) .unit))] [.bool] r86)]) (hs := hintOf [(0, ⟨⟨[(8, .lf (.int .i64))], [], []⟩, [(.ret, ⟨[(4, .lf (.int .i64))], [], []⟩), ((.exit 0), ⟨[], [], []⟩)]⟩)]) stays_G (specOf_cons (PureOk.spec r86_ok) specOf_nil) mixed Go.Proofs.Tryz.func106 rfl (by kernel_rfl) (fun _ => by kernel_rfl)

/-- slices.ContainsFunc[[]terrier/api.Point,terrier/api.Point] -/
noncomputable def r85_86 (x : (kdP [(.slice (.pair (.int .i64) (.pair (.int .i64) .unit))), (.fn 86)]).T) : Option (kdP [.bool]).T :=
  (Option.bind (r106_86 (x.1, (Unit.unit, Unit.unit))) (fun x0 => (Option.some ((Decidable.decide (LE.le (0 : Int) x0.1)), Unit.unit))))
theorem r85_86_ok : PureOk Go.Proofs.Tryz.prog nG gG 85 [(.slice (.pair (.int .i64) (.pair (.int .i64) .unit))), (.fn 86)] [.bool] r85_86 :=
  pureOk_of_run (F := specOf [(106, pickS [([86], pureSpec [(.slice (.pair (.int .i64) (.pair (.int .i64) .unit))), (.fn 86)] [(.int .i64)] r106_86)])]) (hs := hintOf []) stays_G (specOf_cons (pickS_one (PureOk.spec r106_86_ok)) specOf_nil) mixed Go.Proofs.Tryz.func85 rfl (by kernel_rfl) (fun _ => by kernel_rfl)

/-- terrier/feat.points -/
noncomputable def r71 (x : (kdP [(.int .i64), (.slice (.pair (.int .i64) (.pair (.int .i64) .unit)))]).T) : Option (kdP [(.int .i64)]).T :=
  (Option.bind (r85_86 (x.2.1, (Unit.unit, Unit.unit))) (fun x0 => (cond x0.1 (Option.some ((1 : Int), Unit.unit)) (cond (Decidable.decide (Eq x.1 (1 : Int))) (cond (Bool.not (Decidable.decide (Eq (Nat.cast (List.length x.2.1) : Int) (1 : Int)))) (Option.some ((3 : Int), Unit.unit)) (Option.some ((0 : Int), Unit.unit))) (cond (Decidable.decide (Eq x.1 (2 : Int))) (cond (Decidable.decide (LT.lt (Nat.cast (List.length x.2.1) : Int) (2 : Int))) (Option.some ((3 : Int), Unit.unit)) (Option.bind (loop (D := (Prod (Kd.T (.pair (.int .i64) .unit)) (Kd.T .unit))) (O := (Sum (Kd.T (.pair (.pair (.int .i64) .unit) .unit)) (OutT (List.cons ((Ex3.exit 1), (Sh.mk (List.nil) (List.nil) (List.nil))) (List.nil))))) (fun x1 => (cond (Decidable.decide (LT.lt x1.1.1 (Nat.cast (List.length x.2.1) : Int))) (cond (inB x1.1.1 (List.length x.2.1)) (Option.bind (GetElem?.getElem? x.2.1 (Int.toNat x1.1.1)) (fun x2 => (cond (inB (IntKind.wrap IntKind.i64 (HSub.hSub x1.1.1 (1 : Int))) (List.length x.2.1)) (Option.bind (GetElem?.getElem? x.2.1 (Int.toNat (IntKind.wrap IntKind.i64 (HSub.hSub x1.1.1 (1 : Int))))) (fun x3 => (cond (Bool.and (Decidable.decide (Eq x2.1 x3.1)) (Decidable.decide (Eq x2.2.1 x3.2.1))) (Option.some (Sum.inr (Sum.inl (((3 : Int), Unit.unit), Unit.unit)))) (Option.some (Sum.inl (((IntKind.wrap IntKind.i64 (HAdd.hAdd x1.1.1 (1 : Int))), Unit.unit), Unit.unit)))))) (Option.none)))) (Option.none)) (Option.some (Sum.inr (Sum.inr (Sum.inl (Unit.unit, Unit.unit))))))) (((1 : Int), Unit.unit), Unit.unit)) (sumE (fun x1 => (Option.some (x1.1.1, Unit.unit))) (sumE (fun x1 => (Option.some ((0 : Int), Unit.unit))) (emptyE))))) (Option.some ((0 : Int), Unit.unit)))))))
theorem r71_ok : PureOk Go.Proofs.Tryz.prog nG gG 71 [(.int .i64), (.slice (.pair (.int .i64) (.pair (.int .i64) .unit)))] [(.int .i64)] r71 :=
  pureOk_of_run (F := specOf [(85, pickS [([86], pureSpec [(.slice (.pair (.int .i64) (.pair (.int .i64) .unit))), (.fn 86)] [.bool] r85_86)])]) (hs := hintOf [(1, ⟨⟨[(5, .lf (.int .i64))], [], []⟩, [(.ret, ⟨[(4, .lf (.int .i64))], [], []⟩), ((.exit 1), ⟨[], [], []⟩)]⟩)]) stays_G (specOf_cons (pickS_one (PureOk.spec r85_86_ok)) specOf_nil) mixed Go.Proofs.Tryz.func71 rfl (by kernel_rfl) (fun _ => by kernel_rfl)

/-- terrier/ring.Check$1 -/
noncomputable def r89 (x : (kdP [(.pair (.int .i64) (.pair (.int .i64) .unit))]).T) : Option (kdP [.bool]).T :=
  (Option.bind (r87 ((x.1.1, (x.1.2.1, Unit.unit)), Unit.unit)) (fun x0 => (Option.some ((Bool.not x0.1), Unit.unit))))
theorem r89_ok : PureOk Go.Proofs.Tryz.prog nG gG 89 [(.pair (.int .i64) (.pair (.int .i64) .unit))] [.bool] r89 :=
  pureOk_of_run (F := specOf [(87, pureSpec [(.pair (.int .i64) (.pair (.int .i64) .unit))] [.bool] r87)]) (hs := hintOf []) stays_G (specOf_cons (PureOk.spec r87_ok) specOf_nil) mixed Go.Proofs.Tryz.func89 rfl (by kernel_rfl) (fun _ => by kernel_rfl)

/-- slices.IndexFunc[[]terrier/api.Point,terrier/api.Point] -/
noncomputable def r106_89 (x : (kdP [(.slice (.pair (.int .i64) (.pair (.int .i64) .unit))), (.fn 89)]).T) : Option (kdP [(.int .i64)]).T :=
  (Option.bind (loop (D := (Prod (Kd.T (.pair (.int .i64) .unit)) (Kd.T .unit))) (O := (Sum (Kd.T (.pair (.pair (.int .i64) .unit) .unit)) (OutT (List.cons ((Ex3.exit 0), (Sh.mk (List.nil) (List.nil) (List.nil))) (List.nil))))) (fun x0 => (cond (Decidable.decide (LT.lt x0.1.1 (Nat.cast (List.length x.1) : Int))) (cond (inB x0.1.1 (List.length x.1)) (Option.bind (GetElem?.getElem? x.1 (Int.toNat x0.1.1)) (fun x1 => (Option.bind (r89 ((x1.1, (x1.2.1, Unit.unit)), Unit.unit)) (fun x2 => (cond x2.1 (Option.some (Sum.inr (Sum.inl ((x0.1.1, Unit.unit), Unit.unit)))) (Option.some (Sum.inl (((IntKind.wrap IntKind.i64 (HAdd.hAdd x0.1.1 (1 : Int))), Unit.unit), Unit.unit)))))))) (Option.none)) (Option.some (Sum.inr (Sum.inr (Sum.inl (Unit.unit, Unit.unit))))))) (((0 : Int), Unit.unit), Unit.unit)) (sumE (fun x0 => (Option.some (x0.1.1, Unit.unit))) (sumE (fun x0 => (Option.some ((Neg.neg (1 : Int)), Unit.unit))) (emptyE))))
theorem r106_89_ok : PureOk Go.Proofs.Tryz.prog nG gG 106 [(.slice (.pair (.int .i64) (.pair (.int .i64) .unit))), (.fn 89)] [(.int .i64)] r106_89 :=
  pureOk_of_run (F := specOf [(89, pureSpec [(.pair (.int .i64) (.pair (.int .i64) .unit))] [.bool] r89)]) (hs := hintOf [(0, ⟨⟨[(8, .lf (.int .i64))], [], []⟩, [(.ret, ⟨[(4, .lf (.int .i64))], [], []⟩), ((.exit 0), ⟨[], [], []⟩)]⟩)]) stays_G (specOf_cons (PureOk.spec r89_ok) specOf_nil) mixed Go.Proofs.Tryz.func106 rfl (by kernel_rfl) (fun _ => by kernel_rfl)

/-- slices.ContainsFunc[[]terrier/api.Point,terrier/api.Point] -/
noncomputable def r85_89 (x : (kdP [(.slice (.pair (.int .i64) (.pair (.int .i64) .unit))), (.fn 89)]).T) : Option (kdP [.bool]).T :=
  (Option.bind (r106_89 (x.1, (Unit.unit, Unit.unit))) (fun x0 => (Option.some ((Decidable.decide (LE.le (0 : Int) x0.1)), Unit.unit))))
theorem r85_89_ok : PureOk Go.Proofs.Tryz.prog nG gG 85 [(.slice (.pair (.int .i64) (.pair (.int .i64) .unit))), (.fn 89)] [.bool] r85_89 :=
  pureOk_of_run (F := specOf [(106, pickS [([89], pureSpec [(.slice (.pair (.int .i64) (.pair (.int .i64) .unit))), (.fn 89)] [(.int .i64)] r106_89)])]) (hs := hintOf []) stays_G (specOf_cons (pickS_one (PureOk.spec r106_89_ok)) specOf_nil) mixed Go.Proofs.Tryz.func85 rfl (by kernel_rfl) (fun _ => by kernel_rfl)

/-- terrier/point.way -/
noncomputable def r132 (x : (kdP [(.pair (.int .i64) (.pair (.int .i64) .unit)), (.pair (.int .i64) (.pair (.int .i64) .unit))]).T) : Option (kdP [(.pair (.int .i64) (.pair (.int .i64) .unit))]).T :=
  (Option.bind (r63 ((x.1.1, (x.1.2.1, Unit.unit)), Unit.unit)) (fun x0 => (Option.bind (r63 ((x.2.1.1, (x.2.1.2.1, Unit.unit)), Unit.unit)) (fun x1 => (Option.some (((IntKind.wrap IntKind.i64 (HSub.hSub x1.1.1 x0.1.1)), ((IntKind.wrap IntKind.i64 (HSub.hSub x1.1.2.1 x0.1.2.1)), Unit.unit)), Unit.unit))))))
theorem r132_ok : PureOk Go.Proofs.Tryz.prog nG gG 132 [(.pair (.int .i64) (.pair (.int .i64) .unit)), (.pair (.int .i64) (.pair (.int .i64) .unit))] [(.pair (.int .i64) (.pair (.int .i64) .unit))] r132 :=
  pureOk_of_run (F := specOf [(63, pureSpec [(.pair (.int .i64) (.pair (.int .i64) .unit))] [(.pair (.int .i64) (.pair (.int .i64) .unit))] r63)]) (hs := hintOf []) stays_G (specOf_cons (PureOk.spec r63_ok) specOf_nil) mixed Go.Proofs.Tryz.func132 rfl (by kernel_rfl) (fun _ => by kernel_rfl)

/-- terrier/point.Cross -/
noncomputable def r124 (x : (kdP [(.pair (.int .i64) (.pair (.int .i64) .unit)), (.pair (.int .i64) (.pair (.int .i64) .unit)), (.pair (.int .i64) (.pair (.int .i64) .unit))]).T) : Option (kdP [(.int .i64)]).T :=
  (Option.bind (r132 ((x.1.1, (x.1.2.1, Unit.unit)), ((x.2.1.1, (x.2.1.2.1, Unit.unit)), Unit.unit))) (fun x0 => (Option.bind (r132 ((x.1.1, (x.1.2.1, Unit.unit)), ((x.2.2.1.1, (x.2.2.1.2.1, Unit.unit)), Unit.unit))) (fun x1 => (Option.some ((IntKind.wrap IntKind.i64 (HSub.hSub (IntKind.wrap IntKind.i64 (HMul.hMul x0.1.1 x1.1.2.1)) (IntKind.wrap IntKind.i64 (HMul.hMul x0.1.2.1 x1.1.1)))), Unit.unit))))))
theorem r124_ok : PureOk Go.Proofs.Tryz.prog nG gG 124 [(.pair (.int .i64) (.pair (.int .i64) .unit)), (.pair (.int .i64) (.pair (.int .i64) .unit)), (.pair (.int .i64) (.pair (.int .i64) .unit))] [(.int .i64)] r124 :=
  pureOk_of_run (F := specOf [(132, pureSpec [(.pair (.int .i64) (.pair (.int .i64) .unit)), (.pair (.int .i64) (.pair (.int .i64) .unit))] [(.pair (.int .i64) (.pair (.int .i64) .unit))] r132)]) (hs := hintOf []) stays_G (specOf_cons (PureOk.spec r132_ok) specOf_nil) mixed Go.Proofs.Tryz.func124 rfl (by kernel_rfl) (fun _ => by kernel_rfl)

/-- cmp.isNaN[int] -/
noncomputable def r131 (x : (kdP [(.int .i64)]).T) : Option (kdP [.bool]).T :=
  (Option.some ((Bool.not (Decidable.decide (Eq x.1 x.1))), Unit.unit))
theorem r131_ok : PureOk Go.Proofs.Tryz.prog nG gG 131 [(.int .i64)] [.bool] r131 :=
  pureOk_of_run (F := specOf []) (hs := hintOf []) stays_G specOf_nil mixed Go.Proofs.Tryz.func131 rfl (by kernel_rfl) (fun _ => by kernel_rfl)

/-- cmp.Compare[int] -/
noncomputable def r123 (x : (kdP [(.int .i64), (.int .i64)]).T) : Option (kdP [(.int .i64)]).T :=
  (Option.bind (r131 (x.1, Unit.unit)) (fun x0 => (Option.bind (r131 (x.2.1, Unit.unit)) (fun x1 => (cond x0.1 (cond x1.1 (Option.some ((0 : Int), Unit.unit)) (Option.some ((Neg.neg (1 : Int)), Unit.unit))) (cond x1.1 (Option.some ((1 : Int), Unit.unit)) (cond (Decidable.decide (LT.lt x.1 x.2.1)) (Option.some ((Neg.neg (1 : Int)), Unit.unit)) (cond (Decidable.decide (LT.lt x.2.1 x.1)) (Option.some ((1 : Int), Unit.unit)) (Option.some ((0 : Int), Unit.unit))))))))))
theorem r123_ok : PureOk Go.Proofs.Tryz.prog nG gG 123 [(.int .i64), (.int .i64)] [(.int .i64)] r123 :=
  pureOk_of_run (F := specOf [(131, pureSpec [(.int .i64)] [.bool] r131)]) (hs := hintOf []) stays_G (specOf_cons (PureOk.spec r131_ok) specOf_nil) mixed Go.Proofs.Tryz.func123 rfl (by kernel_rfl) (fun _ => by kernel_rfl)

/-- terrier/point.Turn -/
noncomputable def r117 (x : (kdP [(.pair (.int .i64) (.pair (.int .i64) .unit)), (.pair (.int .i64) (.pair (.int .i64) .unit)), (.pair (.int .i64) (.pair (.int .i64) .unit))]).T) : Option (kdP [(.int .i64)]).T :=
  (Option.bind (r124 ((x.1.1, (x.1.2.1, Unit.unit)), ((x.2.1.1, (x.2.1.2.1, Unit.unit)), ((x.2.2.1.1, (x.2.2.1.2.1, Unit.unit)), Unit.unit)))) (fun x0 => (Option.bind (r123 (x0.1, ((0 : Int), Unit.unit))) (fun x1 => (Option.some (x1.1, Unit.unit))))))
theorem r117_ok : PureOk Go.Proofs.Tryz.prog nG gG 117 [(.pair (.int .i64) (.pair (.int .i64) .unit)), (.pair (.int .i64) (.pair (.int .i64) .unit)), (.pair (.int .i64) (.pair (.int .i64) .unit))] [(.int .i64)] r117 :=
  pureOk_of_run (F := specOf [(124, pureSpec [(.pair (.int .i64) (.pair (.int .i64) .unit)), (.pair (.int .i64) (.pair (.int .i64) .unit)), (.pair (.int .i64) (.pair (.int .i64) .unit))] [(.int .i64)] r124), (123, pureSpec [(.int .i64), (.int .i64)] [(.int .i64)] r123)]) (hs := hintOf []) stays_G (specOf_cons (PureOk.spec r124_ok) (specOf_cons (PureOk.spec r123_ok) specOf_nil)) mixed Go.Proofs.Tryz.func117 rfl (by kernel_rfl) (fun _ => by kernel_rfl)

/-- terrier/point.Dot -/
noncomputable def r133 (x : (kdP [(.pair (.int .i64) (.pair (.int .i64) .unit)), (.pair (.int .i64) (.pair (.int .i64) .unit)), (.pair (.int .i64) (.pair (.int .i64) .unit))]).T) : Option (kdP [(.int .i64)]).T :=
  (Option.bind (r132 ((x.1.1, (x.1.2.1, Unit.unit)), ((x.2.1.1, (x.2.1.2.1, Unit.unit)), Unit.unit))) (fun x0 => (Option.bind (r132 ((x.1.1, (x.1.2.1, Unit.unit)), ((x.2.2.1.1, (x.2.2.1.2.1, Unit.unit)), Unit.unit))) (fun x1 => (Option.some ((IntKind.wrap IntKind.i64 (HAdd.hAdd (IntKind.wrap IntKind.i64 (HMul.hMul x0.1.1 x1.1.1)) (IntKind.wrap IntKind.i64 (HMul.hMul x0.1.2.1 x1.1.2.1)))), Unit.unit))))))
theorem r133_ok : PureOk Go.Proofs.Tryz.prog nG gG 133 [(.pair (.int .i64) (.pair (.int .i64) .unit)), (.pair (.int .i64) (.pair (.int .i64) .unit)), (.pair (.int .i64) (.pair (.int .i64) .unit))] [(.int .i64)] r133 :=
  pureOk_of_run (F := specOf [(132, pureSpec [(.pair (.int .i64) (.pair (.int .i64) .unit)), (.pair (.int .i64) (.pair (.int .i64) .unit))] [(.pair (.int .i64) (.pair (.int .i64) .unit))] r132)]) (hs := hintOf []) stays_G (specOf_cons (PureOk.spec r132_ok) specOf_nil) mixed Go.Proofs.Tryz.func133 rfl (by kernel_rfl) (fun _ => by kernel_rfl)

/-- terrier/point.On -/
noncomputable def r126 (x : (kdP [(.pair (.int .i64) (.pair (.int .i64) .unit)), (.pair (.int .i64) (.pair (.int .i64) .unit)), (.pair (.int .i64) (.pair (.int .i64) .unit))]).T) : Option (kdP [.bool]).T :=
  (Option.bind (r117 ((x.1.1, (x.1.2.1, Unit.unit)), ((x.2.1.1, (x.2.1.2.1, Unit.unit)), ((x.2.2.1.1, (x.2.2.1.2.1, Unit.unit)), Unit.unit)))) (fun x0 => (cond (Decidable.decide (Eq x0.1 (0 : Int))) (Option.bind (r133 ((x.2.2.1.1, (x.2.2.1.2.1, Unit.unit)), ((x.1.1, (x.1.2.1, Unit.unit)), ((x.2.1.1, (x.2.1.2.1, Unit.unit)), Unit.unit)))) (fun x1 => (Option.some ((Decidable.decide (LE.le x1.1 (0 : Int))), Unit.unit)))) (Option.some (Bool.false, Unit.unit)))))
theorem r126_ok : PureOk Go.Proofs.Tryz.prog nG gG 126 [(.pair (.int .i64) (.pair (.int .i64) .unit)), (.pair (.int .i64) (.pair (.int .i64) .unit)), (.pair (.int .i64) (.pair (.int .i64) .unit))] [.bool] r126 :=
  pureOk_of_run (F := specOf [(117, pureSpec [(.pair (.int .i64) (.pair (.int .i64) .unit)), (.pair (.int .i64) (.pair (.int .i64) .unit)), (.pair (.int .i64) (.pair (.int .i64) .unit))] [(.int .i64)] r117), (133, pureSpec [(.pair (.int .i64) (.pair (.int .i64) .unit)), (.pair (.int .i64) (.pair (.int .i64) .unit)), (.pair (.int .i64) (.pair (.int .i64) .unit))] [(.int .i64)] r133)]) (hs := hintOf []) stays_G (specOf_cons (PureOk.spec r117_ok) (specOf_cons (PureOk.spec r133_ok) specOf_nil)) mixed Go.Proofs.Tryz.func126 rfl (by kernel_rfl) (fun _ => by kernel_rfl)

/-- terrier/seg.shared$1 -/
noncomputable def r125 (x : (kdP [(.pair (.int .i64) (.pair (.int .i64) .unit)), (.pair (.int .i64) (.pair (.int .i64) .unit)), (.pair (.int .i64) (.pair (.int .i64) .unit))]).T) (d : (kdL [.own (.pair (.int .i64) (.pair (.int .i64) .unit))]).T) : Option ((kdP []).T × (kdL [.own (.pair (.int .i64) (.pair (.int .i64) .unit))]).T) :=
  (Option.bind (r126 ((x.2.1.1, (x.2.1.2.1, Unit.unit)), ((x.2.2.1.1, (x.2.2.1.2.1, Unit.unit)), ((x.1.1, (x.1.2.1, Unit.unit)), Unit.unit)))) (fun x0 => (cond (Bool.not x0.1) (Option.some (Unit.unit, (d.1, Unit.unit))) (Option.bind (loop (D := (Prod (Kd.T (.pair (.int .i64) .unit)) (Kd.T .unit))) (O := (Sum (Kd.T (.pair .unit .unit)) (OutT (List.cons ((Ex3.exit 0), (Sh.mk (List.nil) (List.nil) (List.nil))) (List.nil))))) (fun x1 => (cond (Decidable.decide (LT.lt x1.1.1 (Nat.cast (List.length d.1) : Int))) (cond (inB x1.1.1 (List.length d.1)) (Option.bind (GetElem?.getElem? d.1 (Int.toNat x1.1.1)) (fun x2 => (cond (Bool.and (Decidable.decide (Eq x2.1 x.1.1)) (Decidable.decide (Eq x2.2.1 x.1.2.1))) (Option.some (Sum.inr (Sum.inl (Unit.unit, Unit.unit)))) (Option.some (Sum.inl (((IntKind.wrap IntKind.i64 (HAdd.hAdd x1.1.1 (1 : Int))), Unit.unit), Unit.unit)))))) (Option.none)) (Option.some (Sum.inr (Sum.inr (Sum.inl (Unit.unit, Unit.unit))))))) (((0 : Int), Unit.unit), Unit.unit)) (sumE (fun x1 => (Option.some (Unit.unit, (d.1, Unit.unit)))) (sumE (fun x1 => (cond (fits (HAdd.hAdd (List.length d.1) (List.length (List.cons (x.1.1, (x.1.2.1, Unit.unit)) (List.nil)))) 16) (Option.some (Unit.unit, ((HAppend.hAppend d.1 (List.cons (x.1.1, (x.1.2.1, Unit.unit)) (List.nil))), Unit.unit))) (Option.none))) (emptyE)))))))
theorem r125_ok : SpecOk Go.Proofs.Tryz.prog nG gG 125 (memSpec [.dat (.pair (.int .i64) (.pair (.int .i64) .unit)), .dat (.pair (.int .i64) (.pair (.int .i64) .unit)), .dat (.pair (.int .i64) (.pair (.int .i64) .unit)), .ptr 0 0] [(0, [.own (.pair (.int .i64) (.pair (.int .i64) .unit))])] [(0, [.own (.pair (.int .i64) (.pair (.int .i64) .unit))])] [] r125) :=
  memSpec_ok (F := specOf [(126, pureSpec [(.pair (.int .i64) (.pair (.int .i64) .unit)), (.pair (.int .i64) (.pair (.int .i64) .unit)), (.pair (.int .i64) (.pair (.int .i64) .unit))] [.bool] r126)]) (hs := hintOf [(0, ⟨⟨[(16, .lf (.int .i64))], [], []⟩, [(.ret, ⟨[], [], []⟩), ((.exit 0), ⟨[], [], []⟩)]⟩)]) stays_G (specOf_cons (PureOk.spec r126_ok) specOf_nil) mixed Go.Proofs.Tryz.func125 rfl (by kernel_rfl) (by kernel_rfl) (fun _ _ => by kernel_rfl)

/-- terrier/seg.shared -/
noncomputable def r118 (x : (kdP [(.pair (.int .i64) (.pair (.int .i64) .unit)), (.pair (.int .i64) (.pair (.int .i64) .unit)), (.pair (.int .i64) (.pair (.int .i64) .unit)), (.pair (.int .i64) (.pair (.int .i64) .unit))]).T) : Option (kdP [(.slice (.pair (.int .i64) (.pair (.int .i64) .unit)))]).T :=
  (Option.bind (r125 ((x.1.1, (x.1.2.1, Unit.unit)), ((x.2.2.1.1, (x.2.2.1.2.1, Unit.unit)), ((x.2.2.2.1.1, (x.2.2.2.1.2.1, Unit.unit)), Unit.unit))) ((List.nil), Unit.unit)) (fun x0 => (Option.bind (r125 ((x.2.1.1, (x.2.1.2.1, Unit.unit)), ((x.2.2.1.1, (x.2.2.1.2.1, Unit.unit)), ((x.2.2.2.1.1, (x.2.2.2.1.2.1, Unit.unit)), Unit.unit))) (x0.2.1, Unit.unit)) (fun x1 => (Option.bind (r125 ((x.2.2.1.1, (x.2.2.1.2.1, Unit.unit)), ((x.1.1, (x.1.2.1, Unit.unit)), ((x.2.1.1, (x.2.1.2.1, Unit.unit)), Unit.unit))) (x1.2.1, Unit.unit)) (fun x2 => (Option.bind (r125 ((x.2.2.2.1.1, (x.2.2.2.1.2.1, Unit.unit)), ((x.1.1, (x.1.2.1, Unit.unit)), ((x.2.1.1, (x.2.1.2.1, Unit.unit)), Unit.unit))) (x2.2.1, Unit.unit)) (fun x3 => (Option.some (x3.2.1, Unit.unit))))))))))
theorem r118_ok : PureOk Go.Proofs.Tryz.prog nG gG 118 [(.pair (.int .i64) (.pair (.int .i64) .unit)), (.pair (.int .i64) (.pair (.int .i64) .unit)), (.pair (.int .i64) (.pair (.int .i64) .unit)), (.pair (.int .i64) (.pair (.int .i64) .unit))] [(.slice (.pair (.int .i64) (.pair (.int .i64) .unit)))] r118 :=
  pureOk_of_run (F := specOf [(125, memSpec [.dat (.pair (.int .i64) (.pair (.int .i64) .unit)), .dat (.pair (.int .i64) (.pair (.int .i64) .unit)), .dat (.pair (.int .i64) (.pair (.int .i64) .unit)), .ptr 0 0] [(0, [.own (.pair (.int .i64) (.pair (.int .i64) .unit))])] [(0, [.own (.pair (.int .i64) (.pair (.int .i64) .unit))])] [] r125)]) (hs := hintOf []) stays_G (specOf_cons r125_ok specOf_nil) mixed Go.Proofs.Tryz.func118 rfl (by kernel_rfl) (fun _ => by kernel_rfl)

/-- terrier/seg.Meet -/
noncomputable def r107 (x : (kdP [(.pair (.int .i64) (.pair (.int .i64) .unit)), (.pair (.int .i64) (.pair (.int .i64) .unit)), (.pair (.int .i64) (.pair (.int .i64) .unit)), (.pair (.int .i64) (.pair (.int .i64) .unit))]).T) : Option (kdP [(.int .i64)]).T :=
  (Option.bind (r63 ((x.1.1, (x.1.2.1, Unit.unit)), Unit.unit)) (fun x0 => (Option.bind (r63 ((x.2.1.1, (x.2.1.2.1, Unit.unit)), Unit.unit)) (fun x1 => (Option.bind (r63 ((x.2.2.1.1, (x.2.2.1.2.1, Unit.unit)), Unit.unit)) (fun x2 => (Option.bind (r63 ((x.2.2.2.1.1, (x.2.2.2.1.2.1, Unit.unit)), Unit.unit)) (fun x3 => (Option.bind (r117 ((x0.1.1, (x0.1.2.1, Unit.unit)), ((x1.1.1, (x1.1.2.1, Unit.unit)), ((x2.1.1, (x2.1.2.1, Unit.unit)), Unit.unit)))) (fun x4 => (Option.bind (r117 ((x0.1.1, (x0.1.2.1, Unit.unit)), ((x1.1.1, (x1.1.2.1, Unit.unit)), ((x3.1.1, (x3.1.2.1, Unit.unit)), Unit.unit)))) (fun x5 => (cond (Decidable.decide (LT.lt (IntKind.wrap IntKind.i64 (HMul.hMul x4.1 x5.1)) (0 : Int))) (Option.bind (r117 ((x2.1.1, (x2.1.2.1, Unit.unit)), ((x3.1.1, (x3.1.2.1, Unit.unit)), ((x0.1.1, (x0.1.2.1, Unit.unit)), Unit.unit)))) (fun x6 => (Option.bind (r117 ((x2.1.1, (x2.1.2.1, Unit.unit)), ((x3.1.1, (x3.1.2.1, Unit.unit)), ((x1.1.1, (x1.1.2.1, Unit.unit)), Unit.unit)))) (fun x7 => (cond (Decidable.decide (LT.lt (IntKind.wrap IntKind.i64 (HMul.hMul x6.1 x7.1)) (0 : Int))) (Option.some ((1 : Int), Unit.unit)) (Option.bind (r118 ((x0.1.1, (x0.1.2.1, Unit.unit)), ((x1.1.1, (x1.1.2.1, Unit.unit)), ((x2.1.1, (x2.1.2.1, Unit.unit)), ((x3.1.1, (x3.1.2.1, Unit.unit)), Unit.unit))))) (fun x8 => (Option.some ((minI (2 : Int) (Nat.cast (List.length x8.1) : Int)), Unit.unit))))))))) (Option.bind (r118 ((x0.1.1, (x0.1.2.1, Unit.unit)), ((x1.1.1, (x1.1.2.1, Unit.unit)), ((x2.1.1, (x2.1.2.1, Unit.unit)), ((x3.1.1, (x3.1.2.1, Unit.unit)), Unit.unit))))) (fun x6 => (Option.some ((minI (2 : Int) (Nat.cast (List.length x6.1) : Int)), Unit.unit)))))))))))))))))
theorem r107_ok : PureOk Go.Proofs.Tryz.prog nG gG 107 [(.pair (.int .i64) (.pair (.int .i64) .unit)), (.pair (.int .i64) (.pair (.int .i64) .unit)), (.pair (.int .i64) (.pair (.int .i64) .unit)), (.pair (.int .i64) (.pair (.int .i64) .unit))] [(.int .i64)] r107 :=
  pureOk_of_run (F := specOf [(63, pureSpec [(.pair (.int .i64) (.pair (.int .i64) .unit))] [(.pair (.int .i64) (.pair (.int .i64) .unit))] r63), (117, pureSpec [(.pair (.int .i64) (.pair (.int .i64) .unit)), (.pair (.int .i64) (.pair (.int .i64) .unit)), (.pair (.int .i64) (.pair (.int .i64) .unit))] [(.int .i64)] r117), (118, pureSpec [(.pair (.int .i64) (.pair (.int .i64) .unit)), (.pair (.int .i64) (.pair (.int .i64) .unit)), (.pair (.int .i64) (.pair (.int .i64) .unit)), (.pair (.int .i64) (.pair (.int .i64) .unit))] [(.slice (.pair (.int .i64) (.pair (.int .i64) .unit)))] r118)]) (hs := hintOf []) stays_G (specOf_cons (PureOk.spec r63_ok) (specOf_cons (PureOk.spec r117_ok) (specOf_cons (PureOk.spec r118_ok) specOf_nil))) mixed Go.Proofs.Tryz.func107 rfl (by kernel_rfl) (fun _ => by kernel_rfl)

/-- terrier/ring.apart -/
noncomputable def r90 (x : (kdP [(.slice (.pair (.int .i64) (.pair (.int .i64) .unit))), (.int .i64), (.int .i64)]).T) : Option (kdP [.bool]).T :=
  (cond (inB x.2.1 (List.length x.1)) (Option.bind (GetElem?.getElem? x.1 (Int.toNat x.2.1)) (fun x0 => (cond (Decidable.decide (Eq (Nat.cast (List.length x.1) : Int) (0 : Int))) (Option.none) (cond (inB (Int.tmod (IntKind.wrap IntKind.i64 (HAdd.hAdd x.2.1 (1 : Int))) (Nat.cast (List.length x.1) : Int)) (List.length x.1)) (Option.bind (GetElem?.getElem? x.1 (Int.toNat (Int.tmod (IntKind.wrap IntKind.i64 (HAdd.hAdd x.2.1 (1 : Int))) (Nat.cast (List.length x.1) : Int)))) (fun x1 => (cond (inB x.2.2.1 (List.length x.1)) (Option.bind (GetElem?.getElem? x.1 (Int.toNat x.2.2.1)) (fun x2 => (cond (Decidable.decide (Eq (Nat.cast (List.length x.1) : Int) (0 : Int))) (Option.none) (cond (inB (Int.tmod (IntKind.wrap IntKind.i64 (HAdd.hAdd x.2.2.1 (1 : Int))) (Nat.cast (List.length x.1) : Int)) (List.length x.1)) (Option.bind (GetElem?.getElem? x.1 (Int.toNat (Int.tmod (IntKind.wrap IntKind.i64 (HAdd.hAdd x.2.2.1 (1 : Int))) (Nat.cast (List.length x.1) : Int)))) (fun x3 => (cond (Decidable.decide (Eq (Nat.cast (List.length x.1) : Int) (0 : Int))) (Option.none) (cond (Bool.and (Decidable.decide (Eq x0.1 x1.1)) (Decidable.decide (Eq x0.2.1 x1.2.1))) (Option.some (Bool.false, Unit.unit)) (cond (Bool.and (Decidable.decide (Eq x2.1 x3.1)) (Decidable.decide (Eq x2.2.1 x3.2.1))) (Option.some (Bool.false, Unit.unit)) (cond (Decidable.decide (Eq (IntKind.wrap IntKind.i64 (HAdd.hAdd x.2.1 (1 : Int))) x.2.2.1)) (Option.bind (r107 ((x0.1, (x0.2.1, Unit.unit)), ((x1.1, (x1.2.1, Unit.unit)), ((x2.1, (x2.2.1, Unit.unit)), ((x3.1, (x3.2.1, Unit.unit)), Unit.unit))))) (fun x4 => (Option.some ((Decidable.decide (Eq x4.1 (1 : Int))), Unit.unit)))) (cond (Decidable.decide (Eq (Int.tmod (IntKind.wrap IntKind.i64 (HAdd.hAdd x.2.2.1 (1 : Int))) (Nat.cast (List.length x.1) : Int)) x.2.1)) (Option.bind (r107 ((x0.1, (x0.2.1, Unit.unit)), ((x1.1, (x1.2.1, Unit.unit)), ((x2.1, (x2.2.1, Unit.unit)), ((x3.1, (x3.2.1, Unit.unit)), Unit.unit))))) (fun x4 => (Option.some ((Decidable.decide (Eq x4.1 (1 : Int))), Unit.unit)))) (Option.bind (r107 ((x0.1, (x0.2.1, Unit.unit)), ((x1.1, (x1.2.1, Unit.unit)), ((x2.1, (x2.2.1, Unit.unit)), ((x3.1, (x3.2.1, Unit.unit)), Unit.unit))))) (fun x4 => (Option.some ((Decidable.decide (Eq x4.1 (0 : Int))), Unit.unit))))))))))) (Option.none))))) (Option.none)))) (Option.none))))) (Option.none))
theorem r90_ok : PureOk Go.Proofs.Tryz.prog nG gG 90 [(.slice (.pair (.int .i64) (.pair (.int .i64) .unit))), (.int .i64), (.int .i64)] [.bool] r90 :=
  pureOk_of_run (F := specOf [(107, pureSpec [(.pair (.int .i64) (.pair (.int .i64) .unit)), (.pair (.int .i64) (.pair (.int .i64) .unit)), (.pair (.int .i64) (.pair (.int .i64) .unit)), (.pair (.int .i64) (.pair (.int .i64) .unit))] [(.int .i64)] r107)]) (hs := hintOf []) stays_G (specOf_cons (PureOk.spec r107_ok) specOf_nil) mixed Go.Proofs.Tryz.func90 rfl (by kernel_rfl) (fun _ => by kernel_rfl)

/-- terrier/ring.Check -/
noncomputable def r73 (x : (kdP [(.slice (.pair (.int .i64) (.pair (.int .i64) .unit)))]).T) : Option (kdP [(.int .i64)]).T :=
  (cond (Decidable.decide (LT.lt (200 : Int) (Nat.cast (List.length x.1) : Int))) (Option.some ((2 : Int), Unit.unit)) (cond (Decidable.decide (LT.lt (Nat.cast (List.length x.1) : Int) (3 : Int))) (Option.some ((3 : Int), Unit.unit)) (Option.bind (r85_89 (x.1, (Unit.unit, Unit.unit))) (fun x0 => (cond x0.1 (Option.some ((1 : Int), Unit.unit)) (Option.bind (loop (D := (Prod (Kd.T (.pair (.int .i64) .unit)) (Kd.T .unit))) (O := (Sum (Kd.T (.pair (.pair (.int .i64) .unit) .unit)) (OutT (List.cons ((Ex3.exit 1), (Sh.mk (List.nil) (List.nil) (List.nil))) (List.nil))))) (fun x1 => (cond (Decidable.decide (LT.lt x1.1.1 (Nat.cast (List.length x.1) : Int))) (Option.bind (loop (D := (Prod (Kd.T (.pair (.int .i64) .unit)) (Kd.T .unit))) (O := (Sum (Kd.T (.pair (.pair (.int .i64) .unit) .unit)) (OutT (List.cons ((Ex3.exit 3), (Sh.mk (List.nil) (List.nil) (List.nil))) (List.nil))))) (fun x2 => (cond (Decidable.decide (LT.lt x2.1.1 x1.1.1)) (Option.bind (r90 (x.1, (x2.1.1, (x1.1.1, Unit.unit)))) (fun x3 => (cond (Bool.not x3.1) (Option.some (Sum.inr (Sum.inl (((10 : Int), Unit.unit), Unit.unit)))) (Option.some (Sum.inl (((IntKind.wrap IntKind.i64 (HAdd.hAdd x2.1.1 (1 : Int))), Unit.unit), Unit.unit)))))) (Option.some (Sum.inr (Sum.inr (Sum.inl (Unit.unit, Unit.unit))))))) (((0 : Int), Unit.unit), Unit.unit)) (sumE (fun x2 => (Option.some (Sum.inr (Sum.inl ((x2.1.1, Unit.unit), Unit.unit))))) (sumE (fun x2 => (Option.some (Sum.inl (((IntKind.wrap IntKind.i64 (HAdd.hAdd x1.1.1 (1 : Int))), Unit.unit), Unit.unit)))) (emptyE)))) (Option.some (Sum.inr (Sum.inr (Sum.inl (Unit.unit, Unit.unit))))))) (((0 : Int), Unit.unit), Unit.unit)) (sumE (fun x1 => (Option.some (x1.1.1, Unit.unit))) (sumE (fun x1 => (Option.some ((0 : Int), Unit.unit))) (emptyE)))))))))
theorem r73_ok : PureOk Go.Proofs.Tryz.prog nG gG 73 [(.slice (.pair (.int .i64) (.pair (.int .i64) .unit)))] [(.int .i64)] r73 :=
  pureOk_of_run (F := specOf [(85, pickS [([89], pureSpec [(.slice (.pair (.int .i64) (.pair (.int .i64) .unit))), (.fn 89)] [.bool] r85_89)]), (90, pureSpec [(.slice (.pair (.int .i64) (.pair (.int .i64) .unit))), (.int .i64), (.int .i64)] [.bool] r90)]) (hs := hintOf [(3, ⟨⟨[(22, .lf (.int .i64))], [], []⟩, [(.ret, ⟨[(2, .lf (.int .i64))], [], []⟩), ((.exit 3), ⟨[], [], []⟩)]⟩), (1, ⟨⟨[(18, .lf (.int .i64))], [], []⟩, [(.ret, ⟨[(2, .lf (.int .i64))], [], []⟩), ((.exit 1), ⟨[], [], []⟩)]⟩)]) stays_G (specOf_cons (pickS_one (PureOk.spec r85_89_ok)) (specOf_cons (PureOk.spec r90_ok) specOf_nil)) mixed Go.Proofs.Tryz.func73 rfl (by kernel_rfl) (fun _ => by kernel_rfl)

/-- terrier/area.corners -/
noncomputable def r91 (x : (kdP [(.pair (.int .i64) (.pair (.int .i64) .unit)), (.pair (.int .i64) (.pair (.int .i64) .unit)), (.pair (.int .i64) (.pair (.int .i64) .unit)), (.pair (.int .i64) (.pair (.int .i64) .unit))]).T) : Option (kdP [.bool]).T :=
  (Option.bind (r107 ((x.1.1, (x.1.2.1, Unit.unit)), ((x.2.1.1, (x.2.1.2.1, Unit.unit)), ((x.2.2.1.1, (x.2.2.1.2.1, Unit.unit)), ((x.2.2.2.1.1, (x.2.2.2.1.2.1, Unit.unit)), Unit.unit))))) (fun x0 => (cond (Decidable.decide (Eq x0.1 (0 : Int))) (Option.some (Bool.true, Unit.unit)) (cond (Decidable.decide (Eq x0.1 (1 : Int))) (cond (Bool.and (Decidable.decide (Eq x.1.1 x.2.2.1.1)) (Decidable.decide (Eq x.1.2.1 x.2.2.1.2.1))) (Option.some (Bool.true, Unit.unit)) (cond (Bool.and (Decidable.decide (Eq x.1.1 x.2.2.2.1.1)) (Decidable.decide (Eq x.1.2.1 x.2.2.2.1.2.1))) (Option.some (Bool.true, Unit.unit)) (cond (Bool.and (Decidable.decide (Eq x.2.1.1 x.2.2.1.1)) (Decidable.decide (Eq x.2.1.2.1 x.2.2.1.2.1))) (Option.some (Bool.true, Unit.unit)) (Option.some ((Bool.and (Decidable.decide (Eq x.2.1.1 x.2.2.2.1.1)) (Decidable.decide (Eq x.2.1.2.1 x.2.2.2.1.2.1))), Unit.unit))))) (Option.some (Bool.false, Unit.unit))))))
theorem r91_ok : PureOk Go.Proofs.Tryz.prog nG gG 91 [(.pair (.int .i64) (.pair (.int .i64) .unit)), (.pair (.int .i64) (.pair (.int .i64) .unit)), (.pair (.int .i64) (.pair (.int .i64) .unit)), (.pair (.int .i64) (.pair (.int .i64) .unit))] [.bool] r91 :=
  pureOk_of_run (F := specOf [(107, pureSpec [(.pair (.int .i64) (.pair (.int .i64) .unit)), (.pair (.int .i64) (.pair (.int .i64) .unit)), (.pair (.int .i64) (.pair (.int .i64) .unit)), (.pair (.int .i64) (.pair (.int .i64) .unit))] [(.int .i64)] r107)]) (hs := hintOf []) stays_G (specOf_cons (PureOk.spec r107_ok) specOf_nil) mixed Go.Proofs.Tryz.func91 rfl (by kernel_rfl) (fun _ => by kernel_rfl)

/-- terrier/area.side -/
noncomputable def r108 (x : (kdP [(.slice (.pair (.int .i64) (.pair (.int .i64) .unit))), (.int .i64), (.slice (.pair (.int .i64) (.pair (.int .i64) .unit)))]).T) : Option (kdP [(.int .i64)]).T :=
  (cond (inB x.2.1 (List.length x.1)) (Option.bind (GetElem?.getElem? x.1 (Int.toNat x.2.1)) (fun x0 => (cond (Decidable.decide (Eq (Nat.cast (List.length x.1) : Int) (0 : Int))) (Option.none) (cond (inB (Int.tmod (IntKind.wrap IntKind.i64 (HAdd.hAdd x.2.1 (1 : Int))) (Nat.cast (List.length x.1) : Int)) (List.length x.1)) (Option.bind (GetElem?.getElem? x.1 (Int.toNat (Int.tmod (IntKind.wrap IntKind.i64 (HAdd.hAdd x.2.1 (1 : Int))) (Nat.cast (List.length x.1) : Int)))) (fun x1 => (Option.bind (loop (D := (Prod (Kd.T (.pair (.int .i64) (.pair (.int .i64) .unit))) (Kd.T .unit))) (O := (Sum (Kd.T (.pair (.pair (.int .i64) .unit) .unit)) (OutT (List.nil)))) (fun x2 => (cond (Decidable.decide (LT.lt x2.1.2.1 (Nat.cast (List.length x.2.2.1) : Int))) (cond (inB x2.1.2.1 (List.length x.2.2.1)) (Option.bind (GetElem?.getElem? x.2.2.1 (Int.toNat x2.1.2.1)) (fun x3 => (cond (Decidable.decide (Eq (Nat.cast (List.length x.2.2.1) : Int) (0 : Int))) (Option.none) (cond (inB (Int.tmod (IntKind.wrap IntKind.i64 (HAdd.hAdd x2.1.2.1 (1 : Int))) (Nat.cast (List.length x.2.2.1) : Int)) (List.length x.2.2.1)) (Option.bind (GetElem?.getElem? x.2.2.1 (Int.toNat (Int.tmod (IntKind.wrap IntKind.i64 (HAdd.hAdd x2.1.2.1 (1 : Int))) (Nat.cast (List.length x.2.2.1) : Int)))) (fun x4 => (cond (Decidable.decide (LT.lt x4.2.1 x3.2.1)) (cond (Decidable.decide (LT.lt (IntKind.wrap IntKind.i64 (HMul.hMul (2 : Int) x4.2.1)) (IntKind.wrap IntKind.i64 (HAdd.hAdd x0.2.1 x1.2.1)))) (cond (Decidable.decide (LE.le (IntKind.wrap IntKind.i64 (HAdd.hAdd x0.2.1 x1.2.1)) (IntKind.wrap IntKind.i64 (HMul.hMul (2 : Int) x3.2.1)))) (cond (Decidable.decide (LT.lt (0 : Int) (IntKind.wrap IntKind.i64 (HSub.hSub (IntKind.wrap IntKind.i64 (HMul.hMul (IntKind.wrap IntKind.i64 (HSub.hSub x3.1 x4.1)) (IntKind.wrap IntKind.i64 (HSub.hSub (IntKind.wrap IntKind.i64 (HAdd.hAdd x0.2.1 x1.2.1)) (IntKind.wrap IntKind.i64 (HMul.hMul (2 : Int) x4.2.1)))))) (IntKind.wrap IntKind.i64 (HMul.hMul (IntKind.wrap IntKind.i64 (HSub.hSub x3.2.1 x4.2.1)) (IntKind.wrap IntKind.i64 (HSub.hSub (IntKind.wrap IntKind.i64 (HAdd.hAdd x0.1 x1.1)) (IntKind.wrap IntKind.i64 (HMul.hMul (2 : Int) x4.1)))))))))) (Option.some (Sum.inl (((IntKind.wrap IntKind.i64 (HSub.hSub (0 : Int) x2.1.1)), ((IntKind.wrap IntKind.i64 (HAdd.hAdd x2.1.2.1 (1 : Int))), Unit.unit)), Unit.unit))) (Option.some (Sum.inl ((x2.1.1, ((IntKind.wrap IntKind.i64 (HAdd.hAdd x2.1.2.1 (1 : Int))), Unit.unit)), Unit.unit)))) (Option.some (Sum.inl ((x2.1.1, ((IntKind.wrap IntKind.i64 (HAdd.hAdd x2.1.2.1 (1 : Int))), Unit.unit)), Unit.unit)))) (Option.some (Sum.inl ((x2.1.1, ((IntKind.wrap IntKind.i64 (HAdd.hAdd x2.1.2.1 (1 : Int))), Unit.unit)), Unit.unit)))) (cond (Decidable.decide (LT.lt (IntKind.wrap IntKind.i64 (HMul.hMul (2 : Int) x3.2.1)) (IntKind.wrap IntKind.i64 (HAdd.hAdd x0.2.1 x1.2.1)))) (cond (Decidable.decide (LE.le (IntKind.wrap IntKind.i64 (HAdd.hAdd x0.2.1 x1.2.1)) (IntKind.wrap IntKind.i64 (HMul.hMul (2 : Int) x4.2.1)))) (cond (Decidable.decide (LT.lt (0 : Int) (IntKind.wrap IntKind.i64 (HSub.hSub (IntKind.wrap IntKind.i64 (HMul.hMul (IntKind.wrap IntKind.i64 (HSub.hSub x4.1 x3.1)) (IntKind.wrap IntKind.i64 (HSub.hSub (IntKind.wrap IntKind.i64 (HAdd.hAdd x0.2.1 x1.2.1)) (IntKind.wrap IntKind.i64 (HMul.hMul (2 : Int) x3.2.1)))))) (IntKind.wrap IntKind.i64 (HMul.hMul (IntKind.wrap IntKind.i64 (HSub.hSub x4.2.1 x3.2.1)) (IntKind.wrap IntKind.i64 (HSub.hSub (IntKind.wrap IntKind.i64 (HAdd.hAdd x0.1 x1.1)) (IntKind.wrap IntKind.i64 (HMul.hMul (2 : Int) x3.1)))))))))) (Option.some (Sum.inl (((IntKind.wrap IntKind.i64 (HSub.hSub (0 : Int) x2.1.1)), ((IntKind.wrap IntKind.i64 (HAdd.hAdd x2.1.2.1 (1 : Int))), Unit.unit)), Unit.unit))) (Option.some (Sum.inl ((x2.1.1, ((IntKind.wrap IntKind.i64 (HAdd.hAdd x2.1.2.1 (1 : Int))), Unit.unit)), Unit.unit)))) (Option.some (Sum.inl ((x2.1.1, ((IntKind.wrap IntKind.i64 (HAdd.hAdd x2.1.2.1 (1 : Int))), Unit.unit)), Unit.unit)))) (Option.some (Sum.inl ((x2.1.1, ((IntKind.wrap IntKind.i64 (HAdd.hAdd x2.1.2.1 (1 : Int))), Unit.unit)), Unit.unit))))))) (Option.none))))) (Option.none)) (Option.some (Sum.inr (Sum.inl ((x2.1.1, Unit.unit), Unit.unit)))))) (((Neg.neg (1 : Int)), ((0 : Int), Unit.unit)), Unit.unit)) (sumE (fun x2 => (Option.some (x2.1.1, Unit.unit))) (emptyE))))) (Option.none))))) (Option.none))
theorem r108_ok : PureOk Go.Proofs.Tryz.prog nG gG 108 [(.slice (.pair (.int .i64) (.pair (.int .i64) .unit))), (.int .i64), (.slice (.pair (.int .i64) (.pair (.int .i64) .unit)))] [(.int .i64)] r108 :=
  pureOk_of_run (F := specOf []) (hs := hintOf [(0, ⟨⟨[(10, .lf (.int .i64)), (40, .lf (.int .i64))], [], []⟩, [((.exit 0), ⟨[(10, .lf (.int .i64))], [], []⟩)]⟩)]) stays_G specOf_nil mixed Go.Proofs.Tryz.func108 rfl (by kernel_rfl) (fun _ => by kernel_rfl)

/-- slices.Index[[]int,int] -/
noncomputable def r119 (x : (kdP [(.slice (.int .i64)), (.int .i64)]).T) : Option (kdP [(.int .i64)]).T :=
  (Option.bind (loop (D := (Prod (Kd.T (.pair (.int .i64) .unit)) (Kd.T .unit))) (O := (Sum (Kd.T (.pair (.pair (.int .i64) .unit) .unit)) (OutT (List.cons ((Ex3.exit 0), (Sh.mk (List.nil) (List.nil) (List.nil))) (List.nil))))) (fun x0 => (cond (Decidable.decide (LT.lt x0.1.1 (Nat.cast (List.length x.1) : Int))) (cond (inB x0.1.1 (List.length x.1)) (Option.bind (GetElem?.getElem? x.1 (Int.toNat x0.1.1)) (fun x1 => (cond (Decidable.decide (Eq x.2.1 x1)) (Option.some (Sum.inr (Sum.inl ((x0.1.1, Unit.unit), Unit.unit)))) (Option.some (Sum.inl (((IntKind.wrap IntKind.i64 (HAdd.hAdd x0.1.1 (1 : Int))), Unit.unit), Unit.unit)))))) (Option.none)) (Option.some (Sum.inr (Sum.inr (Sum.inl (Unit.unit, Unit.unit))))))) (((0 : Int), Unit.unit), Unit.unit)) (sumE (fun x0 => (Option.some (x0.1.1, Unit.unit))) (sumE (fun x0 => (Option.some ((Neg.neg (1 : Int)), Unit.unit))) (emptyE))))
theorem r119_ok : PureOk Go.Proofs.Tryz.prog nG gG 119 [(.slice (.int .i64)), (.int .i64)] [(.int .i64)] r119 :=
  pureOk_of_run (F := specOf []) (hs := hintOf [(0, ⟨⟨[(8, .lf (.int .i64))], [], []⟩, [(.ret, ⟨[(4, .lf (.int .i64))], [], []⟩), ((.exit 0), ⟨[], [], []⟩)]⟩)]) stays_G specOf_nil mixed Go.Proofs.Tryz.func119 rfl (by kernel_rfl) (fun _ => by kernel_rfl)

/-- slices.Contains[[]int,int] -/
noncomputable def r109 (x : (kdP [(.slice (.int .i64)), (.int .i64)]).T) : Option (kdP [.bool]).T :=
  (Option.bind (r119 (x.1, (x.2.1, Unit.unit))) (fun x0 => (Option.some ((Decidable.decide (LE.le (0 : Int) x0.1)), Unit.unit))))
theorem r109_ok : PureOk Go.Proofs.Tryz.prog nG gG 109 [(.slice (.int .i64)), (.int .i64)] [.bool] r109 :=
  pureOk_of_run (F := specOf [(119, pureSpec [(.slice (.int .i64)), (.int .i64)] [(.int .i64)] r119)]) (hs := hintOf []) stays_G (specOf_cons (PureOk.spec r119_ok) specOf_nil) mixed Go.Proofs.Tryz.func109 rfl (by kernel_rfl) (fun _ => by kernel_rfl)

/-- terrier/area.sides -/
noncomputable def r92 (x : (kdP [(.slice (.pair (.int .i64) (.pair (.int .i64) .unit))), (.slice (.pair (.int .i64) (.pair (.int .i64) .unit)))]).T) : Option (kdP [(.slice (.int .i64))]).T :=
  (Option.bind (loop (D := (Prod (Kd.T (.pair (.slice (.int .i64)) (.pair (.int .i64) .unit))) (Kd.T .unit))) (O := (Sum (Kd.T (.pair (.pair (.slice (.int .i64)) .unit) .unit)) (OutT (List.nil)))) (fun x0 => (cond (Decidable.decide (LT.lt x0.1.2.1 (Nat.cast (List.length x.1) : Int))) (Option.bind (r108 (x.1, (x0.1.2.1, (x.2.1, Unit.unit)))) (fun x1 => (Option.bind (r109 (x0.1.1, (x1.1, Unit.unit))) (fun x2 => (cond (Bool.not x2.1) (cond (fits (HAdd.hAdd (List.length x0.1.1) (List.length (List.cons x1.1 (List.nil)))) 8) (Option.some (Sum.inl (((HAppend.hAppend x0.1.1 (List.cons x1.1 (List.nil))), ((IntKind.wrap IntKind.i64 (HAdd.hAdd x0.1.2.1 (1 : Int))), Unit.unit)), Unit.unit))) (Option.none)) (Option.some (Sum.inl ((x0.1.1, ((IntKind.wrap IntKind.i64 (HAdd.hAdd x0.1.2.1 (1 : Int))), Unit.unit)), Unit.unit)))))))) (Option.some (Sum.inr (Sum.inl ((x0.1.1, Unit.unit), Unit.unit)))))) (((List.nil), ((0 : Int), Unit.unit)), Unit.unit)) (sumE (fun x0 => (Option.some (x0.1.1, Unit.unit))) (emptyE)))
theorem r92_ok : PureOk Go.Proofs.Tryz.prog nG gG 92 [(.slice (.pair (.int .i64) (.pair (.int .i64) .unit))), (.slice (.pair (.int .i64) (.pair (.int .i64) .unit)))] [(.slice (.int .i64))] r92 :=
  pureOk_of_run (F := specOf [(108, pureSpec [(.slice (.pair (.int .i64) (.pair (.int .i64) .unit))), (.int .i64), (.slice (.pair (.int .i64) (.pair (.int .i64) .unit)))] [(.int .i64)] r108), (109, pureSpec [(.slice (.int .i64)), (.int .i64)] [.bool] r109)]) (hs := hintOf [(0, ⟨⟨[(5, .own (.int .i64)), (10, .lf (.int .i64))], [], []⟩, [((.exit 0), ⟨[(5, .own (.int .i64))], [], []⟩)]⟩)]) stays_G (specOf_cons (PureOk.spec r108_ok) (specOf_cons (PureOk.spec r109_ok) specOf_nil)) mixed Go.Proofs.Tryz.func92 rfl (by kernel_rfl) (fun _ => by kernel_rfl)

/-- terrier/area.fits -/
noncomputable def r74 (x : (kdP [(.slice (.pair (.int .i64) (.pair (.int .i64) .unit))), (.slice (.pair (.int .i64) (.pair (.int .i64) .unit)))]).T) : Option (kdP [.bool]).T :=
  (Option.bind (loop (D := (Prod (Kd.T (.pair (.int .i64) .unit)) (Kd.T .unit))) (O := (Sum (Kd.T (.pair (.pair .bool .unit) .unit)) (OutT (List.cons ((Ex3.exit 0), (Sh.mk (List.nil) (List.nil) (List.nil))) (List.nil))))) (fun x0 => (cond (Decidable.decide (LT.lt x0.1.1 (Nat.cast (List.length x.1) : Int))) (Option.bind (loop (D := (Prod (Kd.T (.pair (.int .i64) .unit)) (Kd.T .unit))) (O := (Sum (Kd.T (.pair (.pair .bool .unit) .unit)) (OutT (List.cons ((Ex3.exit 2), (Sh.mk (List.nil) (List.nil) (List.nil))) (List.nil))))) (fun x1 => (cond (Decidable.decide (LT.lt x1.1.1 (Nat.cast (List.length x.2.1) : Int))) (cond (inB x0.1.1 (List.length x.1)) (Option.bind (GetElem?.getElem? x.1 (Int.toNat x0.1.1)) (fun x2 => (cond (Decidable.decide (Eq (Nat.cast (List.length x.1) : Int) (0 : Int))) (Option.none) (cond (inB (Int.tmod (IntKind.wrap IntKind.i64 (HAdd.hAdd x0.1.1 (1 : Int))) (Nat.cast (List.length x.1) : Int)) (List.length x.1)) (Option.bind (GetElem?.getElem? x.1 (Int.toNat (Int.tmod (IntKind.wrap IntKind.i64 (HAdd.hAdd x0.1.1 (1 : Int))) (Nat.cast (List.length x.1) : Int)))) (fun x3 => (cond (inB x1.1.1 (List.length x.2.1)) (Option.bind (GetElem?.getElem? x.2.1 (Int.toNat x1.1.1)) (fun x4 => (cond (Decidable.decide (Eq (Nat.cast (List.length x.2.1) : Int) (0 : Int))) (Option.none) (cond (inB (Int.tmod (IntKind.wrap IntKind.i64 (HAdd.hAdd x1.1.1 (1 : Int))) (Nat.cast (List.length x.2.1) : Int)) (List.length x.2.1)) (Option.bind (GetElem?.getElem? x.2.1 (Int.toNat (Int.tmod (IntKind.wrap IntKind.i64 (HAdd.hAdd x1.1.1 (1 : Int))) (Nat.cast (List.length x.2.1) : Int)))) (fun x5 => (Option.bind (r91 ((x2.1, (x2.2.1, Unit.unit)), ((x3.1, (x3.2.1, Unit.unit)), ((x4.1, (x4.2.1, Unit.unit)), ((x5.1, (x5.2.1, Unit.unit)), Unit.unit))))) (fun x6 => (cond (Bool.not x6.1) (Option.some (Sum.inr (Sum.inl ((Bool.false, Unit.unit), Unit.unit)))) (Option.some (Sum.inl (((IntKind.wrap IntKind.i64 (HAdd.hAdd x1.1.1 (1 : Int))), Unit.unit), Unit.unit)))))))) (Option.none))))) (Option.none)))) (Option.none))))) (Option.none)) (Option.some (Sum.inr (Sum.inr (Sum.inl (Unit.unit, Unit.unit))))))) (((0 : Int), Unit.unit), Unit.unit)) (sumE (fun x1 => (Option.some (Sum.inr (Sum.inl ((x1.1.1, Unit.unit), Unit.unit))))) (sumE (fun x1 => (Option.some (Sum.inl (((IntKind.wrap IntKind.i64 (HAdd.hAdd x0.1.1 (1 : Int))), Unit.unit), Unit.unit)))) (emptyE)))) (Option.some (Sum.inr (Sum.inr (Sum.inl (Unit.unit, Unit.unit))))))) (((0 : Int), Unit.unit), Unit.unit)) (sumE (fun x0 => (Option.some (x0.1.1, Unit.unit))) (sumE (fun x0 => (Option.bind (r92 (x.1, (x.2.1, Unit.unit))) (fun x1 => (cond (Decidable.decide (Eq (Nat.cast (List.length x1.1) : Int) (1 : Int))) (Option.bind (r92 (x.2.1, (x.1, Unit.unit))) (fun x2 => (Option.some ((Decidable.decide (Eq (Nat.cast (List.length x2.1) : Int) (1 : Int))), Unit.unit)))) (Option.some (Bool.false, Unit.unit)))))) (emptyE))))
theorem r74_ok : PureOk Go.Proofs.Tryz.prog nG gG 74 [(.slice (.pair (.int .i64) (.pair (.int .i64) .unit))), (.slice (.pair (.int .i64) (.pair (.int .i64) .unit)))] [.bool] r74 :=
  pureOk_of_run (F := specOf [(91, pureSpec [(.pair (.int .i64) (.pair (.int .i64) .unit)), (.pair (.int .i64) (.pair (.int .i64) .unit)), (.pair (.int .i64) (.pair (.int .i64) .unit)), (.pair (.int .i64) (.pair (.int .i64) .unit))] [.bool] r91), (92, pureSpec [(.slice (.pair (.int .i64) (.pair (.int .i64) .unit))), (.slice (.pair (.int .i64) (.pair (.int .i64) .unit)))] [(.slice (.int .i64))] r92)]) (hs := hintOf [(2, ⟨⟨[(14, .lf (.int .i64))], [], []⟩, [(.ret, ⟨[(4, .lf .bool)], [], []⟩), ((.exit 2), ⟨[], [], []⟩)]⟩), (0, ⟨⟨[(9, .lf (.int .i64))], [], []⟩, [(.ret, ⟨[(4, .lf .bool)], [], []⟩), ((.exit 0), ⟨[], [], []⟩)]⟩)]) stays_G (specOf_cons (PureOk.spec r91_ok) (specOf_cons (PureOk.spec r92_ok) specOf_nil)) mixed Go.Proofs.Tryz.func74 rfl (by kernel_rfl) (fun _ => by kernel_rfl)

/-- terrier/area.Check -/
noncomputable def r60 (x : (kdP [(.slice (.slice (.pair (.int .i64) (.pair (.int .i64) .unit))))]).T) : Option (kdP [(.int .i64)]).T :=
  (cond (Decidable.decide (LT.lt (20 : Int) (Nat.cast (List.length x.1) : Int))) (Option.some ((2 : Int), Unit.unit)) (Option.bind (loop (D := (Prod (Kd.T (.pair (.int .i64) .unit)) (Kd.T .unit))) (O := (Sum (Kd.T (.pair (.pair (.int .i64) .unit) .unit)) (OutT (List.cons ((Ex3.exit 0), (Sh.mk (List.nil) (List.nil) (List.nil))) (List.nil))))) (fun x0 => (cond (Decidable.decide (LT.lt x0.1.1 (Nat.cast (List.length x.1) : Int))) (cond (inB x0.1.1 (List.length x.1)) (Option.bind (GetElem?.getElem? x.1 (Int.toNat x0.1.1)) (fun x1 => (Option.bind (r73 (x1, Unit.unit)) (fun x2 => (cond (Bool.not (Decidable.decide (Eq x2.1 (0 : Int)))) (Option.some (Sum.inr (Sum.inl ((x2.1, Unit.unit), Unit.unit)))) (Option.some (Sum.inl (((IntKind.wrap IntKind.i64 (HAdd.hAdd x0.1.1 (1 : Int))), Unit.unit), Unit.unit)))))))) (Option.none)) (Option.some (Sum.inr (Sum.inr (Sum.inl (Unit.unit, Unit.unit))))))) (((0 : Int), Unit.unit), Unit.unit)) (sumE (fun x0 => (Option.some (x0.1.1, Unit.unit))) (sumE (fun x0 => (Option.bind (loop (D := (Prod (Kd.T (.pair (.int .i64) .unit)) (Kd.T .unit))) (O := (Sum (Kd.T (.pair (.pair (.int .i64) .unit) .unit)) (OutT (List.cons ((Ex3.exit 2), (Sh.mk (List.nil) (List.nil) (List.nil))) (List.nil))))) (fun x1 => (cond (Decidable.decide (LT.lt x1.1.1 (Nat.cast (List.length x.1) : Int))) (cond (inB x1.1.1 (List.length x.1)) (Option.bind (GetElem?.getElem? x.1 (Int.toNat x1.1.1)) (fun x2 => (cond (upTo x1.1.1 (Nat.cast (List.length x.1) : Int)) (Option.bind (loop (D := (Prod (Kd.T (.pair (.int .i64) .unit)) (Kd.T .unit))) (O := (Sum (Kd.T (.pair (.pair (.int .i64) .unit) .unit)) (OutT (List.cons ((Ex3.exit 4), (Sh.mk (List.nil) (List.nil) (List.nil))) (List.nil))))) (fun x3 => (cond (Decidable.decide (LT.lt x3.1.1 (Nat.cast (List.length (List.take (Int.toNat x1.1.1) x.1)) : Int))) (cond (inB x3.1.1 (List.length (List.take (Int.toNat x1.1.1) x.1))) (Option.bind (GetElem?.getElem? (List.take (Int.toNat x1.1.1) x.1) (Int.toNat x3.1.1)) (fun x4 => (Option.bind (r74 (x2, (x4, Unit.unit))) (fun x5 => (cond (Bool.not x5.1) (Option.some (Sum.inr (Sum.inl (((10 : Int), Unit.unit), Unit.unit)))) (Option.some (Sum.inl (((IntKind.wrap IntKind.i64 (HAdd.hAdd x3.1.1 (1 : Int))), Unit.unit), Unit.unit)))))))) (Option.none)) (Option.some (Sum.inr (Sum.inr (Sum.inl (Unit.unit, Unit.unit))))))) (((0 : Int), Unit.unit), Unit.unit)) (sumE (fun x3 => (Option.some (Sum.inr (Sum.inl ((x3.1.1, Unit.unit), Unit.unit))))) (sumE (fun x3 => (Option.some (Sum.inl (((IntKind.wrap IntKind.i64 (HAdd.hAdd x1.1.1 (1 : Int))), Unit.unit), Unit.unit)))) (emptyE)))) (Option.none)))) (Option.none)) (Option.some (Sum.inr (Sum.inr (Sum.inl (Unit.unit, Unit.unit))))))) (((0 : Int), Unit.unit), Unit.unit)) (sumE (fun x1 => (Option.some (x1.1.1, Unit.unit))) (sumE (fun x1 => (Option.some ((0 : Int), Unit.unit))) (emptyE))))) (emptyE)))))
theorem r60_ok : PureOk Go.Proofs.Tryz.prog nG gG 60 [(.slice (.slice (.pair (.int .i64) (.pair (.int .i64) .unit))))] [(.int .i64)] r60 :=
  pureOk_of_run (F := specOf [(73, pureSpec [(.slice (.pair (.int .i64) (.pair (.int .i64) .unit)))] [(.int .i64)] r73), (74, pureSpec [(.slice (.pair (.int .i64) (.pair (.int .i64) .unit))), (.slice (.pair (.int .i64) (.pair (.int .i64) .unit)))] [.bool] r74)]) (hs := hintOf [(4, ⟨⟨[(36, .lf (.int .i64))], [], []⟩, [(.ret, ⟨[(2, .lf (.int .i64))], [], []⟩), ((.exit 4), ⟨[], [], []⟩)]⟩), (2, ⟨⟨[(27, .lf (.int .i64))], [], []⟩, [(.ret, ⟨[(2, .lf (.int .i64))], [], []⟩), ((.exit 2), ⟨[], [], []⟩)]⟩), (0, ⟨⟨[(15, .lf (.int .i64))], [], []⟩, [(.ret, ⟨[(2, .lf (.int .i64))], [], []⟩), ((.exit 0), ⟨[], [], []⟩)]⟩)]) stays_G (specOf_cons (PureOk.spec r73_ok) (specOf_cons (PureOk.spec r74_ok) specOf_nil)) mixed Go.Proofs.Tryz.func60 rfl (by kernel_rfl) (fun _ => by kernel_rfl)

/-- terrier/feat.Parts -/
noncomputable def r57 (x : (kdP [(.int .i64), (.slice (.slice (.pair (.int .i64) (.pair (.int .i64) .unit))))]).T) : Option (kdP [(.int .i64)]).T :=
  (cond (Decidable.decide (LT.lt x.1 (1 : Int))) (Option.some ((8 : Int), Unit.unit)) (cond (Decidable.decide (LT.lt (3 : Int) x.1)) (Option.some ((8 : Int), Unit.unit)) (cond (Decidable.decide (LT.lt (20 : Int) (Nat.cast (List.length x.2.1) : Int))) (Option.some ((2 : Int), Unit.unit)) (Option.bind (r69_70 (x.2.1, (Unit.unit, Unit.unit))) (fun x0 => (cond x0.1 (Option.some ((2 : Int), Unit.unit)) (cond (Decidable.decide (Eq (Nat.cast (List.length x.2.1) : Int) (0 : Int))) (Option.some ((4 : Int), Unit.unit)) (Option.bind (loop (D := (Prod (Kd.T (.pair (.int .i64) .unit)) (Kd.T .unit))) (O := (Sum (Kd.T (.pair (.pair (.int .i64) .unit) .unit)) (OutT (List.cons ((Ex3.exit 0), (Sh.mk (List.nil) (List.nil) (List.nil))) (List.nil))))) (fun x1 => (cond (Decidable.decide (LT.lt x1.1.1 (Nat.cast (List.length x.2.1) : Int))) (cond (inB x1.1.1 (List.length x.2.1)) (Option.bind (GetElem?.getElem? x.2.1 (Int.toNat x1.1.1)) (fun x2 => (Option.bind (r71 (x.1, (x2, Unit.unit))) (fun x3 => (cond (Bool.not (Decidable.decide (Eq x3.1 (0 : Int)))) (Option.some (Sum.inr (Sum.inl ((x3.1, Unit.unit), Unit.unit)))) (Option.some (Sum.inl (((IntKind.wrap IntKind.i64 (HAdd.hAdd x1.1.1 (1 : Int))), Unit.unit), Unit.unit)))))))) (Option.none)) (Option.some (Sum.inr (Sum.inr (Sum.inl (Unit.unit, Unit.unit))))))) (((0 : Int), Unit.unit), Unit.unit)) (sumE (fun x1 => (Option.some (x1.1.1, Unit.unit))) (sumE (fun x1 => (cond (Decidable.decide (Eq x.1 (3 : Int))) (Option.bind (r60 (x.2.1, Unit.unit)) (fun x2 => (Option.some (x2.1, Unit.unit)))) (Option.some ((0 : Int), Unit.unit)))) (emptyE)))))))))))
theorem r57_ok : PureOk Go.Proofs.Tryz.prog nG gG 57 [(.int .i64), (.slice (.slice (.pair (.int .i64) (.pair (.int .i64) .unit))))] [(.int .i64)] r57 :=
  pureOk_of_run (F := specOf [(69, pickS [([70], pureSpec [(.slice (.slice (.pair (.int .i64) (.pair (.int .i64) .unit)))), (.fn 70)] [.bool] r69_70)]), (71, pureSpec [(.int .i64), (.slice (.pair (.int .i64) (.pair (.int .i64) .unit)))] [(.int .i64)] r71), (60, pureSpec [(.slice (.slice (.pair (.int .i64) (.pair (.int .i64) .unit))))] [(.int .i64)] r60)]) (hs := hintOf [(0, ⟨⟨[(26, .lf (.int .i64))], [], []⟩, [(.ret, ⟨[(4, .lf (.int .i64))], [], []⟩), ((.exit 0), ⟨[], [], []⟩)]⟩)]) stays_G (specOf_cons (pickS_one (PureOk.spec r69_70_ok)) (specOf_cons (PureOk.spec r71_ok) (specOf_cons (PureOk.spec r60_ok) specOf_nil))) mixed Go.Proofs.Tryz.func57 rfl (by kernel_rfl) (fun _ => by kernel_rfl)

/-- terrier/value.plain -/
noncomputable def r88 (x : (kdP [.str]).T) : Option (kdP [.bool]).T :=
  (Option.bind (loop (D := (Prod (Kd.T (.pair (.int .i64) .unit)) (Kd.T .unit))) (O := (Sum (Kd.T (.pair (.pair .bool .unit) .unit)) (OutT (List.cons ((Ex3.exit 0), (Sh.mk (List.nil) (List.nil) (List.nil))) (List.nil))))) (fun x0 => (cond (Decidable.decide (LT.lt x0.1.1 (Nat.cast (ByteArray.size x.1) : Int))) (Option.bind (strAt x.1 x0.1.1) (fun x1 => (cond (Decidable.decide (LT.lt (Nat.cast (UInt8.toNat x1) : Int) (32 : Int))) (Option.some (Sum.inr (Sum.inl ((Bool.false, Unit.unit), Unit.unit)))) (Option.bind (strAt x.1 x0.1.1) (fun x2 => (cond (Decidable.decide (LT.lt (126 : Int) (Nat.cast (UInt8.toNat x2) : Int))) (Option.some (Sum.inr (Sum.inl ((Bool.false, Unit.unit), Unit.unit)))) (Option.bind (strAt x.1 x0.1.1) (fun x3 => (cond (Decidable.decide (Eq (Nat.cast (UInt8.toNat x3) : Int) (34 : Int))) (Option.some (Sum.inr (Sum.inl ((Bool.false, Unit.unit), Unit.unit)))) (Option.some (Sum.inl (((IntKind.wrap IntKind.i64 (HAdd.hAdd x0.1.1 (1 : Int))), Unit.unit), Unit.unit)))))))))))) (Option.some (Sum.inr (Sum.inr (Sum.inl (Unit.unit, Unit.unit))))))) (((0 : Int), Unit.unit), Unit.unit)) (sumE (fun x0 => (Option.some (x0.1.1, Unit.unit))) (sumE (fun x0 => (Option.some (Bool.true, Unit.unit))) (emptyE))))
theorem r88_ok : PureOk Go.Proofs.Tryz.prog nG gG 88 [.str] [.bool] r88 :=
  pureOk_of_run (F := specOf []) (hs := hintOf [(0, ⟨⟨[(6, .lf (.int .i64))], [], []⟩, [(.ret, ⟨[(2, .lf .bool)], [], []⟩), ((.exit 0), ⟨[], [], []⟩)]⟩)]) stays_G specOf_nil mixed Go.Proofs.Tryz.func88 rfl (by kernel_rfl) (fun _ => by kernel_rfl)

/-- terrier/value.Check -/
noncomputable def r72 (x : (kdP [(.pair (.int .i64) (.pair (.int .i64) (.pair .str (.pair .bool .unit))))]).T) : Option (kdP [(.int .i64)]).T :=
  (cond (Decidable.decide (LT.lt x.1.1 (0 : Int))) (Option.some ((8 : Int), Unit.unit)) (cond (Decidable.decide (LT.lt (3 : Int) x.1.1)) (Option.some ((8 : Int), Unit.unit)) (cond (Bool.not (Decidable.decide (Eq x.1.1 (1 : Int)))) (cond (Bool.not (Decidable.decide (Eq x.1.2.1 (0 : Int)))) (Option.some ((3 : Int), Unit.unit)) (cond (Bool.not (Decidable.decide (Eq x.1.1 (2 : Int)))) (cond (Bool.not (Decidable.decide (Eq x.1.2.2.1 (ByteArray.mk (List.toArray (List.nil)))))) (Option.some ((3 : Int), Unit.unit)) (cond (Bool.not (Decidable.decide (Eq x.1.1 (3 : Int)))) (cond x.1.2.2.2.1 (Option.some ((3 : Int), Unit.unit)) (cond (Decidable.decide (LT.lt x.1.2.1 (Neg.neg (1000000000000 : Int)))) (Option.some ((2 : Int), Unit.unit)) (cond (Decidable.decide (LT.lt (1000000000000 : Int) x.1.2.1)) (Option.some ((2 : Int), Unit.unit)) (cond (Decidable.decide (LT.lt (40 : Int) (Nat.cast (ByteArray.size x.1.2.2.1) : Int))) (Option.some ((2 : Int), Unit.unit)) (Option.bind (r88 (x.1.2.2.1, Unit.unit)) (fun x0 => (cond (Bool.not x0.1) (Option.some ((3 : Int), Unit.unit)) (Option.some ((0 : Int), Unit.unit))))))))) (cond (Decidable.decide (LT.lt x.1.2.1 (Neg.neg (1000000000000 : Int)))) (Option.some ((2 : Int), Unit.unit)) (cond (Decidable.decide (LT.lt (1000000000000 : Int) x.1.2.1)) (Option.some ((2 : Int), Unit.unit)) (cond (Decidable.decide (LT.lt (40 : Int) (Nat.cast (ByteArray.size x.1.2.2.1) : Int))) (Option.some ((2 : Int), Unit.unit)) (Option.bind (r88 (x.1.2.2.1, Unit.unit)) (fun x0 => (cond (Bool.not x0.1) (Option.some ((3 : Int), Unit.unit)) (Option.some ((0 : Int), Unit.unit)))))))))) (cond (Bool.not (Decidable.decide (Eq x.1.1 (3 : Int)))) (cond x.1.2.2.2.1 (Option.some ((3 : Int), Unit.unit)) (cond (Decidable.decide (LT.lt x.1.2.1 (Neg.neg (1000000000000 : Int)))) (Option.some ((2 : Int), Unit.unit)) (cond (Decidable.decide (LT.lt (1000000000000 : Int) x.1.2.1)) (Option.some ((2 : Int), Unit.unit)) (cond (Decidable.decide (LT.lt (40 : Int) (Nat.cast (ByteArray.size x.1.2.2.1) : Int))) (Option.some ((2 : Int), Unit.unit)) (Option.bind (r88 (x.1.2.2.1, Unit.unit)) (fun x0 => (cond (Bool.not x0.1) (Option.some ((3 : Int), Unit.unit)) (Option.some ((0 : Int), Unit.unit))))))))) (cond (Decidable.decide (LT.lt x.1.2.1 (Neg.neg (1000000000000 : Int)))) (Option.some ((2 : Int), Unit.unit)) (cond (Decidable.decide (LT.lt (1000000000000 : Int) x.1.2.1)) (Option.some ((2 : Int), Unit.unit)) (cond (Decidable.decide (LT.lt (40 : Int) (Nat.cast (ByteArray.size x.1.2.2.1) : Int))) (Option.some ((2 : Int), Unit.unit)) (Option.bind (r88 (x.1.2.2.1, Unit.unit)) (fun x0 => (cond (Bool.not x0.1) (Option.some ((3 : Int), Unit.unit)) (Option.some ((0 : Int), Unit.unit))))))))))) (cond (Bool.not (Decidable.decide (Eq x.1.1 (2 : Int)))) (cond (Bool.not (Decidable.decide (Eq x.1.2.2.1 (ByteArray.mk (List.toArray (List.nil)))))) (Option.some ((3 : Int), Unit.unit)) (cond (Bool.not (Decidable.decide (Eq x.1.1 (3 : Int)))) (cond x.1.2.2.2.1 (Option.some ((3 : Int), Unit.unit)) (cond (Decidable.decide (LT.lt x.1.2.1 (Neg.neg (1000000000000 : Int)))) (Option.some ((2 : Int), Unit.unit)) (cond (Decidable.decide (LT.lt (1000000000000 : Int) x.1.2.1)) (Option.some ((2 : Int), Unit.unit)) (cond (Decidable.decide (LT.lt (40 : Int) (Nat.cast (ByteArray.size x.1.2.2.1) : Int))) (Option.some ((2 : Int), Unit.unit)) (Option.bind (r88 (x.1.2.2.1, Unit.unit)) (fun x0 => (cond (Bool.not x0.1) (Option.some ((3 : Int), Unit.unit)) (Option.some ((0 : Int), Unit.unit))))))))) (cond (Decidable.decide (LT.lt x.1.2.1 (Neg.neg (1000000000000 : Int)))) (Option.some ((2 : Int), Unit.unit)) (cond (Decidable.decide (LT.lt (1000000000000 : Int) x.1.2.1)) (Option.some ((2 : Int), Unit.unit)) (cond (Decidable.decide (LT.lt (40 : Int) (Nat.cast (ByteArray.size x.1.2.2.1) : Int))) (Option.some ((2 : Int), Unit.unit)) (Option.bind (r88 (x.1.2.2.1, Unit.unit)) (fun x0 => (cond (Bool.not x0.1) (Option.some ((3 : Int), Unit.unit)) (Option.some ((0 : Int), Unit.unit)))))))))) (cond (Bool.not (Decidable.decide (Eq x.1.1 (3 : Int)))) (cond x.1.2.2.2.1 (Option.some ((3 : Int), Unit.unit)) (cond (Decidable.decide (LT.lt x.1.2.1 (Neg.neg (1000000000000 : Int)))) (Option.some ((2 : Int), Unit.unit)) (cond (Decidable.decide (LT.lt (1000000000000 : Int) x.1.2.1)) (Option.some ((2 : Int), Unit.unit)) (cond (Decidable.decide (LT.lt (40 : Int) (Nat.cast (ByteArray.size x.1.2.2.1) : Int))) (Option.some ((2 : Int), Unit.unit)) (Option.bind (r88 (x.1.2.2.1, Unit.unit)) (fun x0 => (cond (Bool.not x0.1) (Option.some ((3 : Int), Unit.unit)) (Option.some ((0 : Int), Unit.unit))))))))) (cond (Decidable.decide (LT.lt x.1.2.1 (Neg.neg (1000000000000 : Int)))) (Option.some ((2 : Int), Unit.unit)) (cond (Decidable.decide (LT.lt (1000000000000 : Int) x.1.2.1)) (Option.some ((2 : Int), Unit.unit)) (cond (Decidable.decide (LT.lt (40 : Int) (Nat.cast (ByteArray.size x.1.2.2.1) : Int))) (Option.some ((2 : Int), Unit.unit)) (Option.bind (r88 (x.1.2.2.1, Unit.unit)) (fun x0 => (cond (Bool.not x0.1) (Option.some ((3 : Int), Unit.unit)) (Option.some ((0 : Int), Unit.unit)))))))))))))
theorem r72_ok : PureOk Go.Proofs.Tryz.prog nG gG 72 [(.pair (.int .i64) (.pair (.int .i64) (.pair .str (.pair .bool .unit))))] [(.int .i64)] r72 :=
  pureOk_of_run (F := specOf [(88, pureSpec [.str] [.bool] r88)]) (hs := hintOf []) stays_G (specOf_cons (PureOk.spec r88_ok) specOf_nil) mixed Go.Proofs.Tryz.func72 rfl (by kernel_rfl) (fun _ => by kernel_rfl)

/-- terrier/feat.Attrs -/
noncomputable def r58 (x : (kdP [(.slice (.pair .str (.pair (.pair (.int .i64) (.pair (.int .i64) (.pair .str (.pair .bool .unit)))) .unit))), .bool]).T) : Option (kdP [(.int .i64)]).T :=
  (cond (Decidable.decide (LT.lt (8 : Int) (Nat.cast (List.length x.1) : Int))) (Option.some ((2 : Int), Unit.unit)) (Option.bind (loop (D := (Prod (Kd.T (.pair (.int .i64) .unit)) (Kd.T .unit))) (O := (Sum (Kd.T (.pair (.pair (.int .i64) .unit) .unit)) (OutT (List.cons ((Ex3.exit 0), (Sh.mk (List.nil) (List.nil) (List.nil))) (List.nil))))) (fun x0 => (cond (Decidable.decide (LT.lt x0.1.1 (Nat.cast (List.length x.1) : Int))) (cond (inB x0.1.1 (List.length x.1)) (Option.bind (GetElem?.getElem? x.1 (Int.toNat x0.1.1)) (fun x1 => (Option.bind (r36 (x1.1, Unit.unit)) (fun x2 => (cond (Bool.not x2.1) (Option.some (Sum.inr (Sum.inl (((16 : Int), Unit.unit), Unit.unit)))) (cond (Decidable.decide (LT.lt (0 : Int) x0.1.1)) (cond (inB (IntKind.wrap IntKind.i64 (HSub.hSub x0.1.1 (1 : Int))) (List.length x.1)) (Option.bind (GetElem?.getElem? x.1 (Int.toNat (IntKind.wrap IntKind.i64 (HSub.hSub x0.1.1 (1 : Int))))) (fun x3 => (cond (Bool.not (strLt x3.1 x1.1)) (Option.some (Sum.inr (Sum.inl (((9 : Int), Unit.unit), Unit.unit)))) (Option.bind (r72 ((x1.2.1.1, (x1.2.1.2.1, (x1.2.1.2.2.1, (x1.2.1.2.2.2.1, Unit.unit)))), Unit.unit)) (fun x4 => (cond (Bool.not (Decidable.decide (Eq x4.1 (0 : Int)))) (Option.some (Sum.inr (Sum.inl ((x4.1, Unit.unit), Unit.unit)))) (cond (Decidable.decide (Eq x1.2.1.1 (0 : Int))) (cond (Bool.not x.2.1) (Option.some (Sum.inr (Sum.inl (((3 : Int), Unit.unit), Unit.unit)))) (Option.some (Sum.inl (((IntKind.wrap IntKind.i64 (HAdd.hAdd x0.1.1 (1 : Int))), Unit.unit), Unit.unit)))) (Option.some (Sum.inl (((IntKind.wrap IntKind.i64 (HAdd.hAdd x0.1.1 (1 : Int))), Unit.unit), Unit.unit)))))))))) (Option.none)) (Option.bind (r72 ((x1.2.1.1, (x1.2.1.2.1, (x1.2.1.2.2.1, (x1.2.1.2.2.2.1, Unit.unit)))), Unit.unit)) (fun x3 => (cond (Bool.not (Decidable.decide (Eq x3.1 (0 : Int)))) (Option.some (Sum.inr (Sum.inl ((x3.1, Unit.unit), Unit.unit)))) (cond (Decidable.decide (Eq x1.2.1.1 (0 : Int))) (cond (Bool.not x.2.1) (Option.some (Sum.inr (Sum.inl (((3 : Int), Unit.unit), Unit.unit)))) (Option.some (Sum.inl (((IntKind.wrap IntKind.i64 (HAdd.hAdd x0.1.1 (1 : Int))), Unit.unit), Unit.unit)))) (Option.some (Sum.inl (((IntKind.wrap IntKind.i64 (HAdd.hAdd x0.1.1 (1 : Int))), Unit.unit), Unit.unit))))))))))))) (Option.none)) (Option.some (Sum.inr (Sum.inr (Sum.inl (Unit.unit, Unit.unit))))))) (((0 : Int), Unit.unit), Unit.unit)) (sumE (fun x0 => (Option.some (x0.1.1, Unit.unit))) (sumE (fun x0 => (Option.some ((0 : Int), Unit.unit))) (emptyE)))))
theorem r58_ok : PureOk Go.Proofs.Tryz.prog nG gG 58 [(.slice (.pair .str (.pair (.pair (.int .i64) (.pair (.int .i64) (.pair .str (.pair .bool .unit)))) .unit))), .bool] [(.int .i64)] r58 :=
  pureOk_of_run (F := specOf [(36, pureSpec [.str] [.bool] r36), (72, pureSpec [(.pair (.int .i64) (.pair (.int .i64) (.pair .str (.pair .bool .unit))))] [(.int .i64)] r72)]) (hs := hintOf [(0, ⟨⟨[(13, .lf (.int .i64))], [], []⟩, [(.ret, ⟨[(4, .lf (.int .i64))], [], []⟩), ((.exit 0), ⟨[], [], []⟩)]⟩)]) stays_G (specOf_cons (PureOk.spec r36_ok) (specOf_cons (PureOk.spec r72_ok) specOf_nil)) mixed Go.Proofs.Tryz.func58 rfl (by kernel_rfl) (fun _ => by kernel_rfl)

/-- terrier/feat.Check -/
noncomputable def r35 (x : (kdP [(.pair (.int .i64) (.pair (.int .i64) (.pair (.slice (.slice (.pair (.int .i64) (.pair (.int .i64) .unit)))) (.pair (.slice (.pair .str (.pair (.pair (.int .i64) (.pair (.int .i64) (.pair .str (.pair .bool .unit)))) .unit))) (.pair (.int .i64) (.pair (.int .i64) .unit))))))]).T) : Option (kdP [(.int .i64)]).T :=
  (cond (Decidable.decide (LT.lt x.1.1 (1 : Int))) (Option.some ((1 : Int), Unit.unit)) (cond (Decidable.decide (LT.lt (1073741824 : Int) x.1.1)) (Option.some ((1 : Int), Unit.unit)) (Option.bind (r57 (x.1.2.1, (x.1.2.2.1, Unit.unit))) (fun x0 => (cond (Bool.not (Decidable.decide (Eq x0.1 (0 : Int)))) (Option.some (x0.1, Unit.unit)) (Option.bind (r58 (x.1.2.2.2.1, (Bool.false, Unit.unit))) (fun x1 => (cond (Bool.not (Decidable.decide (Eq x1.1 (0 : Int)))) (Option.some (x1.1, Unit.unit)) (cond (Decidable.decide (LT.lt x.1.2.2.2.2.1 (0 : Int))) (Option.some ((1 : Int), Unit.unit)) (cond (Decidable.decide (LT.lt (1073741824 : Int) x.1.2.2.2.2.2.1)) (Option.some ((1 : Int), Unit.unit)) (cond (Decidable.decide (LE.le x.1.2.2.2.2.2.1 x.1.2.2.2.2.1)) (Option.some ((1 : Int), Unit.unit)) (Option.some ((0 : Int), Unit.unit)))))))))))))
theorem r35_ok : PureOk Go.Proofs.Tryz.prog nG gG 35 [(.pair (.int .i64) (.pair (.int .i64) (.pair (.slice (.slice (.pair (.int .i64) (.pair (.int .i64) .unit)))) (.pair (.slice (.pair .str (.pair (.pair (.int .i64) (.pair (.int .i64) (.pair .str (.pair .bool .unit)))) .unit))) (.pair (.int .i64) (.pair (.int .i64) .unit))))))] [(.int .i64)] r35 :=
  pureOk_of_run (F := specOf [(57, pureSpec [(.int .i64), (.slice (.slice (.pair (.int .i64) (.pair (.int .i64) .unit))))] [(.int .i64)] r57), (58, pureSpec [(.slice (.pair .str (.pair (.pair (.int .i64) (.pair (.int .i64) (.pair .str (.pair .bool .unit)))) .unit))), .bool] [(.int .i64)] r58)]) (hs := hintOf []) stays_G (specOf_cons (PureOk.spec r57_ok) (specOf_cons (PureOk.spec r58_ok) specOf_nil)) mixed Go.Proofs.Tryz.func35 rfl (by kernel_rfl) (fun _ => by kernel_rfl)

/-- terrier/feat.All -/
noncomputable def r25 (x : (kdP [(.slice (.pair (.int .i64) (.pair (.int .i64) (.pair (.slice (.slice (.pair (.int .i64) (.pair (.int .i64) .unit)))) (.pair (.slice (.pair .str (.pair (.pair (.int .i64) (.pair (.int .i64) (.pair .str (.pair .bool .unit)))) .unit))) (.pair (.int .i64) (.pair (.int .i64) .unit)))))))]).T) : Option (kdP [(.int .i64)]).T :=
  (cond (Decidable.decide (LT.lt (200 : Int) (Nat.cast (List.length x.1) : Int))) (Option.some ((2 : Int), Unit.unit)) (Option.bind (loop (D := (Prod (Kd.T (.pair (.int .i64) .unit)) (Kd.T .unit))) (O := (Sum (Kd.T (.pair (.pair (.int .i64) .unit) .unit)) (OutT (List.cons ((Ex3.exit 0), (Sh.mk (List.nil) (List.nil) (List.nil))) (List.nil))))) (fun x0 => (cond (Decidable.decide (LT.lt x0.1.1 (Nat.cast (List.length x.1) : Int))) (cond (inB x0.1.1 (List.length x.1)) (Option.bind (GetElem?.getElem? x.1 (Int.toNat x0.1.1)) (fun x1 => (Option.bind (r35 ((x1.1, (x1.2.1, (x1.2.2.1, (x1.2.2.2.1, (x1.2.2.2.2.1, (x1.2.2.2.2.2.1, Unit.unit)))))), Unit.unit)) (fun x2 => (cond (Bool.not (Decidable.decide (Eq x2.1 (0 : Int)))) (Option.some (Sum.inr (Sum.inl ((x2.1, Unit.unit), Unit.unit)))) (cond (Decidable.decide (LT.lt (0 : Int) x0.1.1)) (cond (inB (IntKind.wrap IntKind.i64 (HSub.hSub x0.1.1 (1 : Int))) (List.length x.1)) (Option.bind (GetElem?.getElem? x.1 (Int.toNat (IntKind.wrap IntKind.i64 (HSub.hSub x0.1.1 (1 : Int))))) (fun x3 => (cond (Decidable.decide (LE.le x1.1 x3.1)) (Option.some (Sum.inr (Sum.inl (((9 : Int), Unit.unit), Unit.unit)))) (Option.some (Sum.inl (((IntKind.wrap IntKind.i64 (HAdd.hAdd x0.1.1 (1 : Int))), Unit.unit), Unit.unit)))))) (Option.none)) (Option.some (Sum.inl (((IntKind.wrap IntKind.i64 (HAdd.hAdd x0.1.1 (1 : Int))), Unit.unit), Unit.unit))))))))) (Option.none)) (Option.some (Sum.inr (Sum.inr (Sum.inl (Unit.unit, Unit.unit))))))) (((0 : Int), Unit.unit), Unit.unit)) (sumE (fun x0 => (Option.some (x0.1.1, Unit.unit))) (sumE (fun x0 => (Option.some ((0 : Int), Unit.unit))) (emptyE)))))
theorem r25_ok : PureOk Go.Proofs.Tryz.prog nG gG 25 [(.slice (.pair (.int .i64) (.pair (.int .i64) (.pair (.slice (.slice (.pair (.int .i64) (.pair (.int .i64) .unit)))) (.pair (.slice (.pair .str (.pair (.pair (.int .i64) (.pair (.int .i64) (.pair .str (.pair .bool .unit)))) .unit))) (.pair (.int .i64) (.pair (.int .i64) .unit)))))))] [(.int .i64)] r25 :=
  pureOk_of_run (F := specOf [(35, pureSpec [(.pair (.int .i64) (.pair (.int .i64) (.pair (.slice (.slice (.pair (.int .i64) (.pair (.int .i64) .unit)))) (.pair (.slice (.pair .str (.pair (.pair (.int .i64) (.pair (.int .i64) (.pair .str (.pair .bool .unit)))) .unit))) (.pair (.int .i64) (.pair (.int .i64) .unit))))))] [(.int .i64)] r35)]) (hs := hintOf [(0, ⟨⟨[(11, .lf (.int .i64))], [], []⟩, [(.ret, ⟨[(2, .lf (.int .i64))], [], []⟩), ((.exit 0), ⟨[], [], []⟩)]⟩)]) stays_G (specOf_cons (PureOk.spec r35_ok) specOf_nil) mixed Go.Proofs.Tryz.func25 rfl (by kernel_rfl) (fun _ => by kernel_rfl)

/-- terrier/survey.words -/
noncomputable def r27 (x : (kdP []).T) : Option (kdP [(.slice .str)]).T :=
  (Option.some ((List.cons (ByteArray.mk (List.toArray (List.nil))) (List.cons (ByteArray.mk (List.toArray (List.cons (100 : UInt8) (List.cons (111 : UInt8) (List.cons (116 : UInt8) (List.cons (115 : UInt8) (List.nil))))))) (List.cons (ByteArray.mk (List.toArray (List.cons (108 : UInt8) (List.cons (105 : UInt8) (List.cons (110 : UInt8) (List.cons (101 : UInt8) (List.cons (115 : UInt8) (List.nil)))))))) (List.cons (ByteArray.mk (List.toArray (List.cons (97 : UInt8) (List.cons (114 : UInt8) (List.cons (101 : UInt8) (List.cons (97 : UInt8) (List.cons (115 : UInt8) (List.nil)))))))) (List.nil))))), Unit.unit))
theorem r27_ok : PureOk Go.Proofs.Tryz.prog nG gG 27 [] [(.slice .str)] r27 :=
  pureOk_of_run (F := specOf []) (hs := hintOf []) stays_G specOf_nil mixed Go.Proofs.Tryz.func27 rfl (by kernel_rfl) (fun _ => by kernel_rfl)

/-- (*strings.Builder).WriteString -/
noncomputable def r26 (x : (kdP [.str]).T) (d : (kdL [.self 55, .own (.fb 5)]).T) : Option ((kdP [(.int .i64), .err]).T × (kdL [.self 55, .own (.fb 5)]).T) :=
  (cond (fits (HAdd.hAdd (List.length d.2.1) (List.length (bytesOf x.1))) 1) (Option.some (((Nat.cast (ByteArray.size x.1) : Int), (Bool.false, Unit.unit)), (Unit.unit, ((HAppend.hAppend d.2.1 (bytesOf x.1)), Unit.unit)))) (Option.none))
theorem r26_ok : SpecOk Go.Proofs.Tryz.prog nG gG 26 (memSpec [.ptr 0 0, .dat .str] [(0, [.self 55, .own (.fb 5)])] [(0, [.self 55, .own (.fb 5)])] [(.int .i64), .err] r26) :=
  memSpec_ok (F := specOf [(53, copyCheckS)]) (hs := hintOf []) stays_G (specOf_cons copyCheckS_ok specOf_nil) mixed Go.Proofs.Tryz.func26 rfl (by kernel_rfl) (by kernel_rfl) (fun _ _ => by kernel_rfl)

/-- terrier/value.Show -/
noncomputable def r29 (x : (kdP [(.pair (.int .i64) (.pair (.int .i64) (.pair .str (.pair .bool .unit))))]).T) : Option (kdP [.str]).T :=
  (cond (Decidable.decide (Eq x.1.1 (0 : Int))) (Option.some ((ByteArray.mk (List.toArray (List.cons (110 : UInt8) (List.cons (105 : UInt8) (List.cons (108 : UInt8) (List.nil)))))), Unit.unit)) (cond (Decidable.decide (Eq x.1.1 (1 : Int))) (Option.bind (r28 (x.1.2.1, Unit.unit)) (fun x0 => (Option.some (x0.1, Unit.unit)))) (cond (Decidable.decide (Eq x.1.1 (2 : Int))) (cond (Decidable.decide (LT.lt 9223372036854775807 (HAdd.hAdd (ByteArray.size (ByteArray.mk (List.toArray (List.cons (34 : UInt8) (List.nil))))) (ByteArray.size x.1.2.2.1)))) (Option.none) (cond (Decidable.decide (LT.lt 9223372036854775807 (HAdd.hAdd (ByteArray.size (HAppend.hAppend (ByteArray.mk (List.toArray (List.cons (34 : UInt8) (List.nil)))) x.1.2.2.1)) (ByteArray.size (ByteArray.mk (List.toArray (List.cons (34 : UInt8) (List.nil)))))))) (Option.none) (Option.some ((HAppend.hAppend (HAppend.hAppend (ByteArray.mk (List.toArray (List.cons (34 : UInt8) (List.nil)))) x.1.2.2.1) (ByteArray.mk (List.toArray (List.cons (34 : UInt8) (List.nil))))), Unit.unit)))) (cond (Decidable.decide (Eq x.1.1 (3 : Int))) (Option.bind (r38 (x.1.2.2.2.1, Unit.unit)) (fun x0 => (Option.some (x0.1, Unit.unit)))) (Option.some ((ByteArray.mk (List.toArray (List.cons (63 : UInt8) (List.nil)))), Unit.unit))))))
theorem r29_ok : PureOk Go.Proofs.Tryz.prog nG gG 29 [(.pair (.int .i64) (.pair (.int .i64) (.pair .str (.pair .bool .unit))))] [.str] r29 :=
  pureOk_of_run (F := specOf [(28, pureSpec [(.int .i64)] [.str] r28), (38, pureSpec [.bool] [.str] r38)]) (hs := hintOf []) stays_G (specOf_cons (PureOk.spec r28_ok) (specOf_cons (PureOk.spec r38_ok) specOf_nil)) mixed Go.Proofs.Tryz.func29 rfl (by kernel_rfl) (fun _ => by kernel_rfl)

/-- (*strings.Builder).Len -/
noncomputable def r30 (x : (kdP []).T) (d : (kdL [.self 55, .own (.fb 5)]).T) : Option ((kdP [(.int .i64)]).T × (kdL [.self 55, .own (.fb 5)]).T) :=
  (Option.some (((Nat.cast (List.length d.2.1) : Int), Unit.unit), (Unit.unit, (d.2.1, Unit.unit))))
theorem r30_ok : SpecOk Go.Proofs.Tryz.prog nG gG 30 (memSpec [.ptr 0 0] [(0, [.self 55, .own (.fb 5)])] [(0, [.self 55, .own (.fb 5)])] [(.int .i64)] r30) :=
  memSpec_ok (F := specOf []) (hs := hintOf []) stays_G specOf_nil mixed Go.Proofs.Tryz.func30 rfl (by kernel_rfl) (by kernel_rfl) (fun _ _ => by kernel_rfl)

/-- (*strings.Builder).String -/
noncomputable def r31 (x : (kdP []).T) (d : (kdL [.self 55, .own (.fb 5)]).T) : Option ((kdP [.str]).T × (kdL [.self 55, .own (.fb 5)]).T) :=
  (cond (List.isEmpty d.2.1) (cond (Decidable.decide (Eq (Nat.cast (List.length d.2.1) : Int) (0 : Int))) (Option.some ((ByteArray.empty, Unit.unit), (Unit.unit, (d.2.1, Unit.unit)))) (Option.none)) (cond (Decidable.decide (And (Eq (Nat.cast (List.length d.2.1) : Int) (Nat.cast (List.length d.2.1) : Int)) (And (LT.lt (0 : Int) (Nat.cast (List.length d.2.1) : Int)) (LE.le (Nat.cast (List.length d.2.1) : Int) (9223372036854775807 : Int))))) (Option.some (((mkStr d.2.1), Unit.unit), (Unit.unit, (d.2.1, Unit.unit)))) (Option.none)))
theorem r31_ok : SpecOk Go.Proofs.Tryz.prog nG gG 31 (memSpec [.ptr 0 0] [(0, [.self 55, .own (.fb 5)])] [(0, [.self 55, .own (.fb 5)])] [.str] r31) :=
  memSpec_ok (F := specOf []) (hs := hintOf []) stays_G specOf_nil mixed Go.Proofs.Tryz.func31 rfl (by kernel_rfl) (by kernel_rfl) (fun _ _ => by kernel_rfl)

/-- terrier/survey.Write -/
noncomputable def r6 (x : (kdP [(.slice (.pair (.int .i64) (.pair (.int .i64) (.pair (.slice (.slice (.pair (.int .i64) (.pair (.int .i64) .unit)))) (.pair (.slice (.pair .str (.pair (.pair (.int .i64) (.pair (.int .i64) (.pair .str (.pair .bool .unit)))) .unit))) (.pair (.int .i64) (.pair (.int .i64) .unit)))))))]).T) : Option (kdP [.str, (.int .i64)]).T :=
  (Option.bind (r25 (x.1, Unit.unit)) (fun x0 => (cond (Bool.not (Decidable.decide (Eq x0.1 (0 : Int)))) (Option.some ((ByteArray.mk (List.toArray (List.nil))), (x0.1, Unit.unit))) (Option.bind (loop (D := (Prod (Kd.T (.pair (.int .i64) (.pair .unit (.pair (.slice (.fb 5)) .unit)))) (Kd.T .unit))) (O := (Sum (Kd.T (.pair (.pair .str (.pair (.int .i64) (.pair .unit (.pair (.slice (.fb 5)) .unit)))) .unit)) (OutT (List.cons ((Ex3.exit 0), (Sh.mk (List.nil) (List.cons (448, (List.cons (ASh.self 55) (List.cons (ASh.own (Kd.fb 5)) (List.nil)))) (List.nil)) (List.nil))) (List.nil))))) (fun x1 => (cond (Decidable.decide (LT.lt x1.1.1 (Nat.cast (List.length x.1) : Int))) (cond (inB x1.1.1 (List.length x.1)) (Option.bind (GetElem?.getElem? x.1 (Int.toNat x1.1.1)) (fun x2 => (Option.bind (r27 Unit.unit) (fun x3 => (cond (inB x2.2.1 (List.length x3.1)) (Option.bind (GetElem?.getElem? x3.1 (Int.toNat x2.2.1)) (fun x4 => (cond (Decidable.decide (LT.lt 9223372036854775807 (HAdd.hAdd (ByteArray.size x4) (ByteArray.size (ByteArray.mk (List.toArray (List.cons (32 : UInt8) (List.nil)))))))) (Option.none) (Option.bind (r28 (x2.1, Unit.unit)) (fun x5 => (cond (Decidable.decide (LT.lt 9223372036854775807 (HAdd.hAdd (ByteArray.size (HAppend.hAppend x4 (ByteArray.mk (List.toArray (List.cons (32 : UInt8) (List.nil)))))) (ByteArray.size x5.1)))) (Option.none) (cond (Decidable.decide (LT.lt 9223372036854775807 (HAdd.hAdd (ByteArray.size (HAppend.hAppend (HAppend.hAppend x4 (ByteArray.mk (List.toArray (List.cons (32 : UInt8) (List.nil))))) x5.1)) (ByteArray.size (ByteArray.mk (List.toArray (List.cons (32 : UInt8) (List.nil)))))))) (Option.none) (Option.bind (r28 (x2.2.2.2.2.1, Unit.unit)) (fun x6 => (cond (Decidable.decide (LT.lt 9223372036854775807 (HAdd.hAdd (ByteArray.size (HAppend.hAppend (HAppend.hAppend (HAppend.hAppend x4 (ByteArray.mk (List.toArray (List.cons (32 : UInt8) (List.nil))))) x5.1) (ByteArray.mk (List.toArray (List.cons (32 : UInt8) (List.nil)))))) (ByteArray.size x6.1)))) (Option.none) (cond (Decidable.decide (LT.lt 9223372036854775807 (HAdd.hAdd (ByteArray.size (HAppend.hAppend (HAppend.hAppend (HAppend.hAppend (HAppend.hAppend x4 (ByteArray.mk (List.toArray (List.cons (32 : UInt8) (List.nil))))) x5.1) (ByteArray.mk (List.toArray (List.cons (32 : UInt8) (List.nil))))) x6.1)) (ByteArray.size (ByteArray.mk (List.toArray (List.cons (32 : UInt8) (List.nil)))))))) (Option.none) (Option.bind (r28 (x2.2.2.2.2.2.1, Unit.unit)) (fun x7 => (cond (Decidable.decide (LT.lt 9223372036854775807 (HAdd.hAdd (ByteArray.size (HAppend.hAppend (HAppend.hAppend (HAppend.hAppend (HAppend.hAppend (HAppend.hAppend x4 (ByteArray.mk (List.toArray (List.cons (32 : UInt8) (List.nil))))) x5.1) (ByteArray.mk (List.toArray (List.cons (32 : UInt8) (List.nil))))) x6.1) (ByteArray.mk (List.toArray (List.cons (32 : UInt8) (List.nil)))))) (ByteArray.size x7.1)))) (Option.none) (cond (Decidable.decide (LT.lt 9223372036854775807 (HAdd.hAdd (ByteArray.size (HAppend.hAppend (HAppend.hAppend (HAppend.hAppend (HAppend.hAppend (HAppend.hAppend (HAppend.hAppend x4 (ByteArray.mk (List.toArray (List.cons (32 : UInt8) (List.nil))))) x5.1) (ByteArray.mk (List.toArray (List.cons (32 : UInt8) (List.nil))))) x6.1) (ByteArray.mk (List.toArray (List.cons (32 : UInt8) (List.nil))))) x7.1)) (ByteArray.size (ByteArray.mk (List.toArray (List.cons (10 : UInt8) (List.nil)))))))) (Option.none) (Option.bind (r26 ((HAppend.hAppend (HAppend.hAppend (HAppend.hAppend (HAppend.hAppend (HAppend.hAppend (HAppend.hAppend (HAppend.hAppend x4 (ByteArray.mk (List.toArray (List.cons (32 : UInt8) (List.nil))))) x5.1) (ByteArray.mk (List.toArray (List.cons (32 : UInt8) (List.nil))))) x6.1) (ByteArray.mk (List.toArray (List.cons (32 : UInt8) (List.nil))))) x7.1) (ByteArray.mk (List.toArray (List.cons (10 : UInt8) (List.nil))))), Unit.unit) (Unit.unit, (x1.1.2.2.1, Unit.unit))) (fun x8 => (Option.bind (loop (D := (Prod (Kd.T (.pair (.int .i64) (.pair .unit (.pair (.slice (.fb 5)) .unit)))) (Kd.T .unit))) (O := (Sum (Kd.T (.pair (.pair .unit (.pair (.slice (.fb 5)) .unit)) .unit)) (OutT (List.nil)))) (fun x9 => (cond (Decidable.decide (LT.lt x9.1.1 (Nat.cast (List.length x2.2.2.1) : Int))) (cond (inB x9.1.1 (List.length x2.2.2.1)) (Option.bind (GetElem?.getElem? x2.2.2.1 (Int.toNat x9.1.1)) (fun x10 => (Option.bind (r26 ((ByteArray.mk (List.toArray (List.cons (64 : UInt8) (List.nil)))), Unit.unit) (Unit.unit, (x9.1.2.2.1, Unit.unit))) (fun x11 => (Option.bind (loop (D := (Prod (Kd.T (.pair (.int .i64) (.pair .unit (.pair (.slice (.fb 5)) .unit)))) (Kd.T .unit))) (O := (Sum (Kd.T (.pair (.pair .unit (.pair (.slice (.fb 5)) .unit)) .unit)) (OutT (List.nil)))) (fun x12 => (cond (Decidable.decide (LT.lt x12.1.1 (Nat.cast (List.length x10) : Int))) (cond (inB x12.1.1 (List.length x10)) (Option.bind (GetElem?.getElem? x10 (Int.toNat x12.1.1)) (fun x13 => (Option.bind (r28 (x13.1, Unit.unit)) (fun x14 => (cond (Decidable.decide (LT.lt 9223372036854775807 (HAdd.hAdd (ByteArray.size (ByteArray.mk (List.toArray (List.cons (32 : UInt8) (List.nil))))) (ByteArray.size x14.1)))) (Option.none) (cond (Decidable.decide (LT.lt 9223372036854775807 (HAdd.hAdd (ByteArray.size (HAppend.hAppend (ByteArray.mk (List.toArray (List.cons (32 : UInt8) (List.nil)))) x14.1)) (ByteArray.size (ByteArray.mk (List.toArray (List.cons (44 : UInt8) (List.nil)))))))) (Option.none) (Option.bind (r28 (x13.2.1, Unit.unit)) (fun x15 => (cond (Decidable.decide (LT.lt 9223372036854775807 (HAdd.hAdd (ByteArray.size (HAppend.hAppend (HAppend.hAppend (ByteArray.mk (List.toArray (List.cons (32 : UInt8) (List.nil)))) x14.1) (ByteArray.mk (List.toArray (List.cons (44 : UInt8) (List.nil)))))) (ByteArray.size x15.1)))) (Option.none) (Option.bind (r26 ((HAppend.hAppend (HAppend.hAppend (HAppend.hAppend (ByteArray.mk (List.toArray (List.cons (32 : UInt8) (List.nil)))) x14.1) (ByteArray.mk (List.toArray (List.cons (44 : UInt8) (List.nil))))) x15.1), Unit.unit) (Unit.unit, (x12.1.2.2.1, Unit.unit))) (fun x16 => (Option.some (Sum.inl (((IntKind.wrap IntKind.i64 (HAdd.hAdd x12.1.1 (1 : Int))), (Unit.unit, (x16.2.2.1, Unit.unit))), Unit.unit)))))))))))))) (Option.none)) (Option.some (Sum.inr (Sum.inl ((Unit.unit, (x12.1.2.2.1, Unit.unit)), Unit.unit)))))) (((0 : Int), (Unit.unit, (x11.2.2.1, Unit.unit))), Unit.unit)) (sumE (fun x12 => (Option.bind (r26 ((ByteArray.mk (List.toArray (List.cons (10 : UInt8) (List.nil)))), Unit.unit) (Unit.unit, (x12.1.2.1, Unit.unit))) (fun x13 => (Option.some (Sum.inl (((IntKind.wrap IntKind.i64 (HAdd.hAdd x9.1.1 (1 : Int))), (Unit.unit, (x13.2.2.1, Unit.unit))), Unit.unit)))))) (emptyE))))))) (Option.none)) (Option.some (Sum.inr (Sum.inl ((Unit.unit, (x9.1.2.2.1, Unit.unit)), Unit.unit)))))) (((0 : Int), (Unit.unit, (x8.2.2.1, Unit.unit))), Unit.unit)) (sumE (fun x9 => (Option.bind (loop (D := (Prod (Kd.T (.pair (.int .i64) (.pair .unit (.pair (.slice (.fb 5)) .unit)))) (Kd.T .unit))) (O := (Sum (Kd.T (.pair (.pair .unit (.pair (.slice (.fb 5)) .unit)) .unit)) (OutT (List.nil)))) (fun x10 => (cond (Decidable.decide (LT.lt x10.1.1 (Nat.cast (List.length x2.2.2.2.1) : Int))) (cond (inB x10.1.1 (List.length x2.2.2.2.1)) (Option.bind (GetElem?.getElem? x2.2.2.2.1 (Int.toNat x10.1.1)) (fun x11 => (cond (Decidable.decide (LT.lt 9223372036854775807 (HAdd.hAdd (ByteArray.size x11.1) (ByteArray.size (ByteArray.mk (List.toArray (List.cons (61 : UInt8) (List.nil)))))))) (Option.none) (Option.bind (r29 ((x11.2.1.1, (x11.2.1.2.1, (x11.2.1.2.2.1, (x11.2.1.2.2.2.1, Unit.unit)))), Unit.unit)) (fun x12 => (cond (Decidable.decide (LT.lt 9223372036854775807 (HAdd.hAdd (ByteArray.size (HAppend.hAppend x11.1 (ByteArray.mk (List.toArray (List.cons (61 : UInt8) (List.nil)))))) (ByteArray.size x12.1)))) (Option.none) (cond (Decidable.decide (LT.lt 9223372036854775807 (HAdd.hAdd (ByteArray.size (HAppend.hAppend (HAppend.hAppend x11.1 (ByteArray.mk (List.toArray (List.cons (61 : UInt8) (List.nil))))) x12.1)) (ByteArray.size (ByteArray.mk (List.toArray (List.cons (10 : UInt8) (List.nil)))))))) (Option.none) (Option.bind (r26 ((HAppend.hAppend (HAppend.hAppend (HAppend.hAppend x11.1 (ByteArray.mk (List.toArray (List.cons (61 : UInt8) (List.nil))))) x12.1) (ByteArray.mk (List.toArray (List.cons (10 : UInt8) (List.nil))))), Unit.unit) (Unit.unit, (x10.1.2.2.1, Unit.unit))) (fun x13 => (Option.some (Sum.inl (((IntKind.wrap IntKind.i64 (HAdd.hAdd x10.1.1 (1 : Int))), (Unit.unit, (x13.2.2.1, Unit.unit))), Unit.unit)))))))))))) (Option.none)) (Option.some (Sum.inr (Sum.inl ((Unit.unit, (x10.1.2.2.1, Unit.unit)), Unit.unit)))))) (((0 : Int), (Unit.unit, (x9.1.2.1, Unit.unit))), Unit.unit)) (sumE (fun x10 => (Option.bind (r30 Unit.unit (Unit.unit, (x10.1.2.1, Unit.unit))) (fun x11 => (cond (Decidable.decide (LT.lt (65536 : Int) x11.1.1)) (Option.some (Sum.inr (Sum.inl (((ByteArray.mk (List.toArray (List.nil))), ((2 : Int), (Unit.unit, (x11.2.2.1, Unit.unit)))), Unit.unit)))) (Option.some (Sum.inl (((IntKind.wrap IntKind.i64 (HAdd.hAdd x1.1.1 (1 : Int))), (Unit.unit, (x11.2.2.1, Unit.unit))), Unit.unit))))))) (emptyE)))) (emptyE)))))))))))))))))))) (Option.none)))))) (Option.none)) (Option.some (Sum.inr (Sum.inr (Sum.inl ((Unit.unit, (x1.1.2.2.1, Unit.unit)), Unit.unit))))))) (((0 : Int), (Unit.unit, ((List.nil), Unit.unit))), Unit.unit)) (sumE (fun x1 => (Option.some (x1.1.1, (x1.1.2.1, Unit.unit)))) (sumE (fun x1 => (Option.bind (r31 Unit.unit (Unit.unit, (x1.1.2.1, Unit.unit))) (fun x2 => (Option.some (x2.1.1, ((0 : Int), Unit.unit)))))) (emptyE)))))))
theorem r6_ok : PureOk Go.Proofs.Tryz.prog nG gG 6 [(.slice (.pair (.int .i64) (.pair (.int .i64) (.pair (.slice (.slice (.pair (.int .i64) (.pair (.int .i64) .unit)))) (.pair (.slice (.pair .str (.pair (.pair (.int .i64) (.pair (.int .i64) (.pair .str (.pair .bool .unit)))) .unit))) (.pair (.int .i64) (.pair (.int .i64) .unit)))))))] [.str, (.int .i64)] r6 :=
  pureOk_of_run (F := specOf [(25, pureSpec [(.slice (.pair (.int .i64) (.pair (.int .i64) (.pair (.slice (.slice (.pair (.int .i64) (.pair (.int .i64) .unit)))) (.pair (.slice (.pair .str (.pair (.pair (.int .i64) (.pair (.int .i64) (.pair .str (.pair .bool .unit)))) .unit))) (.pair (.int .i64) (.pair (.int .i64) .unit)))))))] [(.int .i64)] r25), (27, pureSpec [] [(.slice .str)] r27), (28, pureSpec [(.int .i64)] [.str] r28), (26, memSpec [.ptr 0 0, .dat .str] [(0, [.self 55, .own (.fb 5)])] [(0, [.self 55, .own (.fb 5)])] [(.int .i64), .err] r26), (29, pureSpec [(.pair (.int .i64) (.pair (.int .i64) (.pair .str (.pair .bool .unit))))] [.str] r29), (30, memSpec [.ptr 0 0] [(0, [.self 55, .own (.fb 5)])] [(0, [.self 55, .own (.fb 5)])] [(.int .i64)] r30), (31, memSpec [.ptr 0 0] [(0, [.self 55, .own (.fb 5)])] [(0, [.self 55, .own (.fb 5)])] [.str] r31)]) (hs := hintOf [(6, ⟨⟨[(77, .lf (.int .i64))], [(448, [.self 55, .own (.fb 5)])], []⟩, [((.exit 6), ⟨[], [(448, [.self 55, .own (.fb 5)])], []⟩)]⟩), (4, ⟨⟨[(57, .lf (.int .i64))], [(448, [.self 55, .own (.fb 5)])], []⟩, [((.exit 4), ⟨[], [(448, [.self 55, .own (.fb 5)])], []⟩)]⟩), (2, ⟨⟨[(50, .lf (.int .i64))], [(448, [.self 55, .own (.fb 5)])], []⟩, [((.exit 2), ⟨[], [(448, [.self 55, .own (.fb 5)])], []⟩)]⟩), (0, ⟨⟨[(21, .lf (.int .i64))], [(448, [.self 55, .own (.fb 5)])], []⟩, [(.ret, ⟨[(2, .lf .str), (3, .lf (.int .i64))], [(448, [.self 55, .own (.fb 5)])], []⟩), ((.exit 0), ⟨[], [(448, [.self 55, .own (.fb 5)])], []⟩)]⟩)]) stays_G (specOf_cons (PureOk.spec r25_ok) (specOf_cons (PureOk.spec r27_ok) (specOf_cons (PureOk.spec r28_ok) (specOf_cons r26_ok (specOf_cons (PureOk.spec r29_ok) (specOf_cons r30_ok (specOf_cons r31_ok specOf_nil))))))) mixed Go.Proofs.Tryz.func6 rfl (by kernel_rfl) (fun _ => by kernel_rfl)

/-- terrier/terrlaw2.surveyBegun -/
noncomputable def r5 (x : (kdP []).T) : Option (kdP [.bool]).T :=
  (Option.bind (r24 Unit.unit) (fun x0 => (Option.bind (r6 (x0.1, Unit.unit)) (fun x1 => (cond (Decidable.decide (Eq x1.2.1 (0 : Int))) (Option.some ((Decidable.decide (Eq x1.1 (ByteArray.mk (List.toArray (List.cons (100 : UInt8) (List.cons (111 : UInt8) (List.cons (116 : UInt8) (List.cons (115 : UInt8) (List.cons (32 : UInt8) (List.cons (49 : UInt8) (List.cons (32 : UInt8) (List.cons (48 : UInt8) (List.cons (32 : UInt8) (List.cons (57 : UInt8) (List.cons (10 : UInt8) (List.cons (64 : UInt8) (List.cons (32 : UInt8) (List.cons (51 : UInt8) (List.cons (44 : UInt8) (List.cons (52 : UInt8) (List.cons (10 : UInt8) (List.nil)))))))))))))))))))))), Unit.unit)) (Option.some (Bool.false, Unit.unit)))))))
theorem r5_ok : PureOk Go.Proofs.Tryz.prog nG gG 5 [] [.bool] r5 :=
  pureOk_of_run (F := specOf [(24, pureSpec [] [(.slice (.pair (.int .i64) (.pair (.int .i64) (.pair (.slice (.slice (.pair (.int .i64) (.pair (.int .i64) .unit)))) (.pair (.slice (.pair .str (.pair (.pair (.int .i64) (.pair (.int .i64) (.pair .str (.pair .bool .unit)))) .unit))) (.pair (.int .i64) (.pair (.int .i64) .unit)))))))] r24), (6, pureSpec [(.slice (.pair (.int .i64) (.pair (.int .i64) (.pair (.slice (.slice (.pair (.int .i64) (.pair (.int .i64) .unit)))) (.pair (.slice (.pair .str (.pair (.pair (.int .i64) (.pair (.int .i64) (.pair .str (.pair .bool .unit)))) .unit))) (.pair (.int .i64) (.pair (.int .i64) .unit)))))))] [.str, (.int .i64)] r6)]) (hs := hintOf []) stays_G (specOf_cons (PureOk.spec r24_ok) (specOf_cons (PureOk.spec r6_ok) specOf_nil)) mixed Go.Proofs.Tryz.func5 rfl (by kernel_rfl) (fun _ => by kernel_rfl)

/-- terrier/terrref2.PartsErr -/
noncomputable def r45 (x : (kdP [(.int .i64), (.slice (.slice (.pair (.int .i64) (.pair (.int .i64) .unit))))]).T) : Option (kdP [(.int .i64)]).T :=
  (cond (Decidable.decide (LT.lt x.1 (1 : Int))) (Option.some ((8 : Int), Unit.unit)) (cond (Decidable.decide (LT.lt (3 : Int) x.1)) (Option.some ((8 : Int), Unit.unit)) (Option.bind (loop (D := (Prod (Kd.T (.pair .bool (.pair (.int .i64) .unit))) (Kd.T .unit))) (O := (Sum (Kd.T (.pair (.pair .bool .unit) .unit)) (OutT (List.nil)))) (fun x0 => (cond (Decidable.decide (LT.lt x0.1.2.1 (Nat.cast (List.length x.2.1) : Int))) (cond (inB x0.1.2.1 (List.length x.2.1)) (Option.bind (GetElem?.getElem? x.2.1 (Int.toNat x0.1.2.1)) (fun x1 => (cond x0.1.1 (Option.some (Sum.inl ((Bool.true, ((IntKind.wrap IntKind.i64 (HAdd.hAdd x0.1.2.1 (1 : Int))), Unit.unit)), Unit.unit))) (Option.some (Sum.inl (((Decidable.decide (LT.lt (200 : Int) (Nat.cast (List.length x1) : Int))), ((IntKind.wrap IntKind.i64 (HAdd.hAdd x0.1.2.1 (1 : Int))), Unit.unit)), Unit.unit)))))) (Option.none)) (Option.some (Sum.inr (Sum.inl ((x0.1.1, Unit.unit), Unit.unit)))))) (((Decidable.decide (LT.lt (20 : Int) (Nat.cast (List.length x.2.1) : Int))), ((0 : Int), Unit.unit)), Unit.unit)) (sumE (fun x0 => (cond x0.1.1 (Option.some ((2 : Int), Unit.unit)) (cond (Decidable.decide (Eq (Nat.cast (List.length x.2.1) : Int) (0 : Int))) (Option.some ((4 : Int), Unit.unit)) (Option.bind (loop (D := (Prod (Kd.T (.pair (.int .i64) .unit)) (Kd.T .unit))) (O := (Sum (Kd.T (.pair (.pair (.int .i64) .unit) .unit)) (OutT (List.cons ((Ex3.exit 2), (Sh.mk (List.nil) (List.nil) (List.nil))) (List.nil))))) (fun x1 => (cond (Decidable.decide (LT.lt x1.1.1 (Nat.cast (List.length x.2.1) : Int))) (cond (inB x1.1.1 (List.length x.2.1)) (Option.bind (GetElem?.getElem? x.2.1 (Int.toNat x1.1.1)) (fun x2 => (Option.bind (loop (D := (Prod (Kd.T (.pair (.int .i64) .unit)) (Kd.T .unit))) (O := (Sum (Kd.T (.pair (.pair (.int .i64) .unit) .unit)) (OutT (List.cons ((Ex3.exit 4), (Sh.mk (List.nil) (List.nil) (List.nil))) (List.nil))))) (fun x3 => (cond (Decidable.decide (LT.lt x3.1.1 (Nat.cast (List.length x2) : Int))) (cond (inB x3.1.1 (List.length x2)) (Option.bind (GetElem?.getElem? x2 (Int.toNat x3.1.1)) (fun x4 => (cond (Decidable.decide (LT.lt x4.1 (Neg.neg (1048576 : Int)))) (Option.some (Sum.inr (Sum.inl (((1 : Int), Unit.unit), Unit.unit)))) (cond (Decidable.decide (LT.lt (1048576 : Int) x4.1)) (Option.some (Sum.inr (Sum.inl (((1 : Int), Unit.unit), Unit.unit)))) (cond (Decidable.decide (LT.lt x4.2.1 (Neg.neg (1048576 : Int)))) (Option.some (Sum.inr (Sum.inl (((1 : Int), Unit.unit), Unit.unit)))) (cond (Decidable.decide (LT.lt (1048576 : Int) x4.2.1)) (Option.some (Sum.inr (Sum.inl (((1 : Int), Unit.unit), Unit.unit)))) (Option.some (Sum.inl (((IntKind.wrap IntKind.i64 (HAdd.hAdd x3.1.1 (1 : Int))), Unit.unit), Unit.unit))))))))) (Option.none)) (Option.some (Sum.inr (Sum.inr (Sum.inl (Unit.unit, Unit.unit))))))) (((0 : Int), Unit.unit), Unit.unit)) (sumE (fun x3 => (Option.some (Sum.inr (Sum.inl ((x3.1.1, Unit.unit), Unit.unit))))) (sumE (fun x3 => (cond (Decidable.decide (Eq x.1 (1 : Int))) (cond (Bool.not (Decidable.decide (Eq (Nat.cast (List.length x2) : Int) (1 : Int)))) (Option.some (Sum.inr (Sum.inl (((3 : Int), Unit.unit), Unit.unit)))) (cond (Decidable.decide (Eq x.1 (2 : Int))) (cond (Decidable.decide (LT.lt (Nat.cast (List.length x2) : Int) (2 : Int))) (Option.some (Sum.inr (Sum.inl (((3 : Int), Unit.unit), Unit.unit)))) (Option.bind (loop (D := (Prod (Kd.T (.pair (.int .i64) .unit)) (Kd.T .unit))) (O := (Sum (Kd.T (.pair (.pair (.int .i64) .unit) .unit)) (OutT (List.cons ((Ex3.exit 6), (Sh.mk (List.nil) (List.nil) (List.nil))) (List.nil))))) (fun x4 => (cond (Decidable.decide (LT.lt x4.1.1 (Nat.cast (List.length x2) : Int))) (cond (Decidable.decide (Eq x.1 (2 : Int))) (cond (Decidable.decide (LT.lt (IntKind.wrap IntKind.i64 (HAdd.hAdd x4.1.1 (1 : Int))) (Nat.cast (List.length x2) : Int))) (cond (inB x4.1.1 (List.length x2)) (Option.bind (GetElem?.getElem? x2 (Int.toNat x4.1.1)) (fun x5 => (cond (inB (IntKind.wrap IntKind.i64 (HAdd.hAdd x4.1.1 (1 : Int))) (List.length x2)) (Option.bind (GetElem?.getElem? x2 (Int.toNat (IntKind.wrap IntKind.i64 (HAdd.hAdd x4.1.1 (1 : Int))))) (fun x6 => (cond (Bool.and (Decidable.decide (Eq x5.1 x6.1)) (Decidable.decide (Eq x5.2.1 x6.2.1))) (Option.some (Sum.inr (Sum.inl (((3 : Int), Unit.unit), Unit.unit)))) (Option.some (Sum.inl (((IntKind.wrap IntKind.i64 (HAdd.hAdd x4.1.1 (1 : Int))), Unit.unit), Unit.unit)))))) (Option.none)))) (Option.none)) (Option.some (Sum.inl (((IntKind.wrap IntKind.i64 (HAdd.hAdd x4.1.1 (1 : Int))), Unit.unit), Unit.unit)))) (Option.some (Sum.inl (((IntKind.wrap IntKind.i64 (HAdd.hAdd x4.1.1 (1 : Int))), Unit.unit), Unit.unit)))) (Option.some (Sum.inr (Sum.inr (Sum.inl (Unit.unit, Unit.unit))))))) (((0 : Int), Unit.unit), Unit.unit)) (sumE (fun x4 => (Option.some (Sum.inr (Sum.inl ((x4.1.1, Unit.unit), Unit.unit))))) (sumE (fun x4 => (Option.some (Sum.inl (((IntKind.wrap IntKind.i64 (HAdd.hAdd x1.1.1 (1 : Int))), Unit.unit), Unit.unit)))) (emptyE))))) (Option.bind (loop (D := (Prod (Kd.T (.pair (.int .i64) .unit)) (Kd.T .unit))) (O := (Sum (Kd.T (.pair (.pair (.int .i64) .unit) .unit)) (OutT (List.cons ((Ex3.exit 6), (Sh.mk (List.nil) (List.nil) (List.nil))) (List.nil))))) (fun x4 => (cond (Decidable.decide (LT.lt x4.1.1 (Nat.cast (List.length x2) : Int))) (cond (Decidable.decide (Eq x.1 (2 : Int))) (cond (Decidable.decide (LT.lt (IntKind.wrap IntKind.i64 (HAdd.hAdd x4.1.1 (1 : Int))) (Nat.cast (List.length x2) : Int))) (cond (inB x4.1.1 (List.length x2)) (Option.bind (GetElem?.getElem? x2 (Int.toNat x4.1.1)) (fun x5 => (cond (inB (IntKind.wrap IntKind.i64 (HAdd.hAdd x4.1.1 (1 : Int))) (List.length x2)) (Option.bind (GetElem?.getElem? x2 (Int.toNat (IntKind.wrap IntKind.i64 (HAdd.hAdd x4.1.1 (1 : Int))))) (fun x6 => (cond (Bool.and (Decidable.decide (Eq x5.1 x6.1)) (Decidable.decide (Eq x5.2.1 x6.2.1))) (Option.some (Sum.inr (Sum.inl (((3 : Int), Unit.unit), Unit.unit)))) (Option.some (Sum.inl (((IntKind.wrap IntKind.i64 (HAdd.hAdd x4.1.1 (1 : Int))), Unit.unit), Unit.unit)))))) (Option.none)))) (Option.none)) (Option.some (Sum.inl (((IntKind.wrap IntKind.i64 (HAdd.hAdd x4.1.1 (1 : Int))), Unit.unit), Unit.unit)))) (Option.some (Sum.inl (((IntKind.wrap IntKind.i64 (HAdd.hAdd x4.1.1 (1 : Int))), Unit.unit), Unit.unit)))) (Option.some (Sum.inr (Sum.inr (Sum.inl (Unit.unit, Unit.unit))))))) (((0 : Int), Unit.unit), Unit.unit)) (sumE (fun x4 => (Option.some (Sum.inr (Sum.inl ((x4.1.1, Unit.unit), Unit.unit))))) (sumE (fun x4 => (Option.some (Sum.inl (((IntKind.wrap IntKind.i64 (HAdd.hAdd x1.1.1 (1 : Int))), Unit.unit), Unit.unit)))) (emptyE)))))) (cond (Decidable.decide (Eq x.1 (2 : Int))) (cond (Decidable.decide (LT.lt (Nat.cast (List.length x2) : Int) (2 : Int))) (Option.some (Sum.inr (Sum.inl (((3 : Int), Unit.unit), Unit.unit)))) (Option.bind (loop (D := (Prod (Kd.T (.pair (.int .i64) .unit)) (Kd.T .unit))) (O := (Sum (Kd.T (.pair (.pair (.int .i64) .unit) .unit)) (OutT (List.cons ((Ex3.exit 6), (Sh.mk (List.nil) (List.nil) (List.nil))) (List.nil))))) (fun x4 => (cond (Decidable.decide (LT.lt x4.1.1 (Nat.cast (List.length x2) : Int))) (cond (Decidable.decide (Eq x.1 (2 : Int))) (cond (Decidable.decide (LT.lt (IntKind.wrap IntKind.i64 (HAdd.hAdd x4.1.1 (1 : Int))) (Nat.cast (List.length x2) : Int))) (cond (inB x4.1.1 (List.length x2)) (Option.bind (GetElem?.getElem? x2 (Int.toNat x4.1.1)) (fun x5 => (cond (inB (IntKind.wrap IntKind.i64 (HAdd.hAdd x4.1.1 (1 : Int))) (List.length x2)) (Option.bind (GetElem?.getElem? x2 (Int.toNat (IntKind.wrap IntKind.i64 (HAdd.hAdd x4.1.1 (1 : Int))))) (fun x6 => (cond (Bool.and (Decidable.decide (Eq x5.1 x6.1)) (Decidable.decide (Eq x5.2.1 x6.2.1))) (Option.some (Sum.inr (Sum.inl (((3 : Int), Unit.unit), Unit.unit)))) (Option.some (Sum.inl (((IntKind.wrap IntKind.i64 (HAdd.hAdd x4.1.1 (1 : Int))), Unit.unit), Unit.unit)))))) (Option.none)))) (Option.none)) (Option.some (Sum.inl (((IntKind.wrap IntKind.i64 (HAdd.hAdd x4.1.1 (1 : Int))), Unit.unit), Unit.unit)))) (Option.some (Sum.inl (((IntKind.wrap IntKind.i64 (HAdd.hAdd x4.1.1 (1 : Int))), Unit.unit), Unit.unit)))) (Option.some (Sum.inr (Sum.inr (Sum.inl (Unit.unit, Unit.unit))))))) (((0 : Int), Unit.unit), Unit.unit)) (sumE (fun x4 => (Option.some (Sum.inr (Sum.inl ((x4.1.1, Unit.unit), Unit.unit))))) (sumE (fun x4 => (Option.some (Sum.inl (((IntKind.wrap IntKind.i64 (HAdd.hAdd x1.1.1 (1 : Int))), Unit.unit), Unit.unit)))) (emptyE))))) (Option.bind (loop (D := (Prod (Kd.T (.pair (.int .i64) .unit)) (Kd.T .unit))) (O := (Sum (Kd.T (.pair (.pair (.int .i64) .unit) .unit)) (OutT (List.cons ((Ex3.exit 6), (Sh.mk (List.nil) (List.nil) (List.nil))) (List.nil))))) (fun x4 => (cond (Decidable.decide (LT.lt x4.1.1 (Nat.cast (List.length x2) : Int))) (cond (Decidable.decide (Eq x.1 (2 : Int))) (cond (Decidable.decide (LT.lt (IntKind.wrap IntKind.i64 (HAdd.hAdd x4.1.1 (1 : Int))) (Nat.cast (List.length x2) : Int))) (cond (inB x4.1.1 (List.length x2)) (Option.bind (GetElem?.getElem? x2 (Int.toNat x4.1.1)) (fun x5 => (cond (inB (IntKind.wrap IntKind.i64 (HAdd.hAdd x4.1.1 (1 : Int))) (List.length x2)) (Option.bind (GetElem?.getElem? x2 (Int.toNat (IntKind.wrap IntKind.i64 (HAdd.hAdd x4.1.1 (1 : Int))))) (fun x6 => (cond (Bool.and (Decidable.decide (Eq x5.1 x6.1)) (Decidable.decide (Eq x5.2.1 x6.2.1))) (Option.some (Sum.inr (Sum.inl (((3 : Int), Unit.unit), Unit.unit)))) (Option.some (Sum.inl (((IntKind.wrap IntKind.i64 (HAdd.hAdd x4.1.1 (1 : Int))), Unit.unit), Unit.unit)))))) (Option.none)))) (Option.none)) (Option.some (Sum.inl (((IntKind.wrap IntKind.i64 (HAdd.hAdd x4.1.1 (1 : Int))), Unit.unit), Unit.unit)))) (Option.some (Sum.inl (((IntKind.wrap IntKind.i64 (HAdd.hAdd x4.1.1 (1 : Int))), Unit.unit), Unit.unit)))) (Option.some (Sum.inr (Sum.inr (Sum.inl (Unit.unit, Unit.unit))))))) (((0 : Int), Unit.unit), Unit.unit)) (sumE (fun x4 => (Option.some (Sum.inr (Sum.inl ((x4.1.1, Unit.unit), Unit.unit))))) (sumE (fun x4 => (Option.some (Sum.inl (((IntKind.wrap IntKind.i64 (HAdd.hAdd x1.1.1 (1 : Int))), Unit.unit), Unit.unit)))) (emptyE))))))) (emptyE)))))) (Option.none)) (Option.some (Sum.inr (Sum.inr (Sum.inl (Unit.unit, Unit.unit))))))) (((0 : Int), Unit.unit), Unit.unit)) (sumE (fun x1 => (Option.some (x1.1.1, Unit.unit))) (sumE (fun x1 => (cond (Decidable.decide (Eq x.1 (3 : Int))) (Option.bind (r60 (x.2.1, Unit.unit)) (fun x2 => (Option.some (x2.1, Unit.unit)))) (Option.some ((0 : Int), Unit.unit)))) (emptyE))))))) (emptyE)))))
theorem r45_ok : PureOk Go.Proofs.Tryz.prog nG gG 45 [(.int .i64), (.slice (.slice (.pair (.int .i64) (.pair (.int .i64) .unit))))] [(.int .i64)] r45 :=
  pureOk_of_run (F := specOf [(60, pureSpec [(.slice (.slice (.pair (.int .i64) (.pair (.int .i64) .unit))))] [(.int .i64)] r60)]) (hs := hintOf [(6, ⟨⟨[(88, .lf (.int .i64))], [], []⟩, [(.ret, ⟨[(4, .lf (.int .i64))], [], []⟩), ((.exit 6), ⟨[], [], []⟩)]⟩), (4, ⟨⟨[(47, .lf (.int .i64))], [], []⟩, [(.ret, ⟨[(4, .lf (.int .i64))], [], []⟩), ((.exit 4), ⟨[], [], []⟩)]⟩), (2, ⟨⟨[(41, .lf (.int .i64))], [], []⟩, [(.ret, ⟨[(4, .lf (.int .i64))], [], []⟩), ((.exit 2), ⟨[], [], []⟩)]⟩), (0, ⟨⟨[(5, .lf .bool), (24, .lf (.int .i64))], [], []⟩, [((.exit 0), ⟨[(5, .lf .bool)], [], []⟩)]⟩)]) stays_G (specOf_cons (PureOk.spec r60_ok) specOf_nil) mixed Go.Proofs.Tryz.func45 rfl (by kernel_rfl) (fun _ => by kernel_rfl)

/-- terrier/terrref2.ValueErr -/
noncomputable def r62 (x : (kdP [(.pair (.int .i64) (.pair (.int .i64) (.pair .str (.pair .bool .unit))))]).T) : Option (kdP [(.int .i64)]).T :=
  (cond (Decidable.decide (LT.lt x.1.1 (0 : Int))) (Option.some ((8 : Int), Unit.unit)) (cond (Decidable.decide (LT.lt (3 : Int) x.1.1)) (Option.some ((8 : Int), Unit.unit)) (cond (inB x.1.1 (List.length (List.cons ((0 : Int), ((0 : Int), ((ByteArray.mk (List.toArray (List.nil))), (Bool.false, Unit.unit)))) (List.cons ((1 : Int), (x.1.2.1, ((ByteArray.mk (List.toArray (List.nil))), (Bool.false, Unit.unit)))) (List.cons ((2 : Int), ((0 : Int), (x.1.2.2.1, (Bool.false, Unit.unit)))) (List.cons ((3 : Int), ((0 : Int), ((ByteArray.mk (List.toArray (List.nil))), (x.1.2.2.2.1, Unit.unit)))) (List.nil))))))) (Option.bind (GetElem?.getElem? (List.cons ((0 : Int), ((0 : Int), ((ByteArray.mk (List.toArray (List.nil))), (Bool.false, Unit.unit)))) (List.cons ((1 : Int), (x.1.2.1, ((ByteArray.mk (List.toArray (List.nil))), (Bool.false, Unit.unit)))) (List.cons ((2 : Int), ((0 : Int), (x.1.2.2.1, (Bool.false, Unit.unit)))) (List.cons ((3 : Int), ((0 : Int), ((ByteArray.mk (List.toArray (List.nil))), (x.1.2.2.2.1, Unit.unit)))) (List.nil))))) (Int.toNat x.1.1)) (fun x0 => (cond (Bool.not (Bool.and (Decidable.decide (Eq x0.1 x.1.1)) (Bool.and (Decidable.decide (Eq x0.2.1 x.1.2.1)) (Bool.and (Decidable.decide (Eq x0.2.2.1 x.1.2.2.1)) (Decidable.decide (Eq x0.2.2.2.1 x.1.2.2.2.1)))))) (Option.some ((3 : Int), Unit.unit)) (cond (Decidable.decide (LT.lt (1000000000000 : Int) x.1.2.1)) (Option.some ((2 : Int), Unit.unit)) (cond (Decidable.decide (LT.lt x.1.2.1 (Neg.neg (1000000000000 : Int)))) (Option.some ((2 : Int), Unit.unit)) (cond (Decidable.decide (LT.lt (40 : Int) (Nat.cast (ByteArray.size x.1.2.2.1) : Int))) (Option.some ((2 : Int), Unit.unit)) (Option.bind (loop (D := (Prod (Kd.T (.pair (.int .i64) .unit)) (Kd.T .unit))) (O := (Sum (Kd.T (.pair (.pair (.int .i64) .unit) .unit)) (OutT (List.cons ((Ex3.exit 0), (Sh.mk (List.nil) (List.nil) (List.nil))) (List.nil))))) (fun x1 => (cond (Decidable.decide (LT.lt x1.1.1 (Nat.cast (List.length (bytesOf x.1.2.2.1)) : Int))) (cond (inB x1.1.1 (List.length (bytesOf x.1.2.2.1))) (Option.bind (GetElem?.getElem? (bytesOf x.1.2.2.1) (Int.toNat x1.1.1)) (fun x2 => (cond (Decidable.decide (LT.lt x2 (32 : Int))) (Option.some (Sum.inr (Sum.inl (((3 : Int), Unit.unit), Unit.unit)))) (cond (Decidable.decide (LT.lt (126 : Int) x2)) (Option.some (Sum.inr (Sum.inl (((3 : Int), Unit.unit), Unit.unit)))) (cond (Decidable.decide (Eq x2 (34 : Int))) (Option.some (Sum.inr (Sum.inl (((3 : Int), Unit.unit), Unit.unit)))) (Option.some (Sum.inl (((IntKind.wrap IntKind.i64 (HAdd.hAdd x1.1.1 (1 : Int))), Unit.unit), Unit.unit)))))))) (Option.none)) (Option.some (Sum.inr (Sum.inr (Sum.inl (Unit.unit, Unit.unit))))))) (((0 : Int), Unit.unit), Unit.unit)) (sumE (fun x1 => (Option.some (x1.1.1, Unit.unit))) (sumE (fun x1 => (Option.some ((0 : Int), Unit.unit))) (emptyE)))))))))) (Option.none))))
theorem r62_ok : PureOk Go.Proofs.Tryz.prog nG gG 62 [(.pair (.int .i64) (.pair (.int .i64) (.pair .str (.pair .bool .unit))))] [(.int .i64)] r62 :=
  pureOk_of_run (F := specOf []) (hs := hintOf [(0, ⟨⟨[(50, .lf (.int .i64))], [], []⟩, [(.ret, ⟨[(2, .lf (.int .i64))], [], []⟩), ((.exit 0), ⟨[], [], []⟩)]⟩)]) stays_G specOf_nil mixed Go.Proofs.Tryz.func62 rfl (by kernel_rfl) (fun _ => by kernel_rfl)

/-- terrier/terrref2.AttrsErr -/
noncomputable def r46 (x : (kdP [(.slice (.pair .str (.pair (.pair (.int .i64) (.pair (.int .i64) (.pair .str (.pair .bool .unit)))) .unit))), .bool]).T) : Option (kdP [(.int .i64)]).T :=
  (cond (Decidable.decide (LT.lt (8 : Int) (Nat.cast (List.length x.1) : Int))) (Option.some ((2 : Int), Unit.unit)) (Option.bind (loop (D := (Prod (Kd.T (.pair .str (.pair (.int .i64) .unit))) (Kd.T .unit))) (O := (Sum (Kd.T (.pair (.pair (.int .i64) .unit) .unit)) (OutT (List.cons ((Ex3.exit 0), (Sh.mk (List.nil) (List.nil) (List.nil))) (List.nil))))) (fun x0 => (cond (Decidable.decide (LT.lt x0.1.2.1 (Nat.cast (List.length x.1) : Int))) (cond (inB x0.1.2.1 (List.length x.1)) (Option.bind (GetElem?.getElem? x.1 (Int.toNat x0.1.2.1)) (fun x1 => (Option.bind (r61 (x1.1, Unit.unit)) (fun x2 => (cond (Bool.not x2.1) (Option.some (Sum.inr (Sum.inl (((16 : Int), Unit.unit), Unit.unit)))) (cond (Bool.or (strLt x1.1 x0.1.1) (Decidable.decide (Eq x1.1 x0.1.1))) (Option.some (Sum.inr (Sum.inl (((9 : Int), Unit.unit), Unit.unit)))) (Option.bind (r62 ((x1.2.1.1, (x1.2.1.2.1, (x1.2.1.2.2.1, (x1.2.1.2.2.2.1, Unit.unit)))), Unit.unit)) (fun x3 => (cond (Bool.not (Decidable.decide (Eq x3.1 (0 : Int)))) (Option.some (Sum.inr (Sum.inl ((x3.1, Unit.unit), Unit.unit)))) (cond (Bool.not x.2.1) (cond (Bool.and (Decidable.decide (Eq x1.2.1.1 (0 : Int))) (Bool.and (Decidable.decide (Eq x1.2.1.2.1 (0 : Int))) (Bool.and (Decidable.decide (Eq x1.2.1.2.2.1 (ByteArray.mk (List.toArray (List.nil))))) (Decidable.decide (Eq x1.2.1.2.2.2.1 Bool.false))))) (Option.some (Sum.inr (Sum.inl (((3 : Int), Unit.unit), Unit.unit)))) (Option.some (Sum.inl ((x1.1, ((IntKind.wrap IntKind.i64 (HAdd.hAdd x0.1.2.1 (1 : Int))), Unit.unit)), Unit.unit)))) (Option.some (Sum.inl ((x1.1, ((IntKind.wrap IntKind.i64 (HAdd.hAdd x0.1.2.1 (1 : Int))), Unit.unit)), Unit.unit))))))))))))) (Option.none)) (Option.some (Sum.inr (Sum.inr (Sum.inl (Unit.unit, Unit.unit))))))) (((ByteArray.mk (List.toArray (List.nil))), ((0 : Int), Unit.unit)), Unit.unit)) (sumE (fun x0 => (Option.some (x0.1.1, Unit.unit))) (sumE (fun x0 => (Option.some ((0 : Int), Unit.unit))) (emptyE)))))
theorem r46_ok : PureOk Go.Proofs.Tryz.prog nG gG 46 [(.slice (.pair .str (.pair (.pair (.int .i64) (.pair (.int .i64) (.pair .str (.pair .bool .unit)))) .unit))), .bool] [(.int .i64)] r46 :=
  pureOk_of_run (F := specOf [(61, pureSpec [.str] [.bool] r61), (62, pureSpec [(.pair (.int .i64) (.pair (.int .i64) (.pair .str (.pair .bool .unit))))] [(.int .i64)] r62)]) (hs := hintOf [(0, ⟨⟨[(5, .lf .str), (14, .lf (.int .i64))], [], []⟩, [(.ret, ⟨[(4, .lf (.int .i64))], [], []⟩), ((.exit 0), ⟨[], [], []⟩)]⟩)]) stays_G (specOf_cons (PureOk.spec r61_ok) (specOf_cons (PureOk.spec r62_ok) specOf_nil)) mixed Go.Proofs.Tryz.func46 rfl (by kernel_rfl) (fun _ => by kernel_rfl)

/-- terrier/terrref2.FeatErr -/
noncomputable def r17 (x : (kdP [(.pair (.int .i64) (.pair (.int .i64) (.pair (.slice (.slice (.pair (.int .i64) (.pair (.int .i64) .unit)))) (.pair (.slice (.pair .str (.pair (.pair (.int .i64) (.pair (.int .i64) (.pair .str (.pair .bool .unit)))) .unit))) (.pair (.int .i64) (.pair (.int .i64) .unit))))))]).T) : Option (kdP [(.int .i64)]).T :=
  (cond (Decidable.decide (LE.le x.1.1 (0 : Int))) (Option.some ((1 : Int), Unit.unit)) (cond (Decidable.decide (LT.lt (1073741824 : Int) x.1.1)) (Option.some ((1 : Int), Unit.unit)) (Option.bind (r45 (x.1.2.1, (x.1.2.2.1, Unit.unit))) (fun x0 => (cond (Decidable.decide (Eq x0.1 (0 : Int))) (Option.bind (r46 (x.1.2.2.2.1, (Bool.false, Unit.unit))) (fun x1 => (cond (Decidable.decide (Eq x1.1 (0 : Int))) (cond (Decidable.decide (LT.lt x.1.2.2.2.2.1 (0 : Int))) (Option.some ((1 : Int), Unit.unit)) (cond (Decidable.decide (LE.le x.1.2.2.2.2.2.1 x.1.2.2.2.2.1)) (Option.some ((1 : Int), Unit.unit)) (cond (Decidable.decide (LT.lt (1073741824 : Int) x.1.2.2.2.2.2.1)) (Option.some ((1 : Int), Unit.unit)) (Option.some (x1.1, Unit.unit))))) (Option.some (x1.1, Unit.unit))))) (cond (Decidable.decide (Eq x0.1 (0 : Int))) (cond (Decidable.decide (LT.lt x.1.2.2.2.2.1 (0 : Int))) (Option.some ((1 : Int), Unit.unit)) (cond (Decidable.decide (LE.le x.1.2.2.2.2.2.1 x.1.2.2.2.2.1)) (Option.some ((1 : Int), Unit.unit)) (cond (Decidable.decide (LT.lt (1073741824 : Int) x.1.2.2.2.2.2.1)) (Option.some ((1 : Int), Unit.unit)) (Option.some (x0.1, Unit.unit))))) (Option.some (x0.1, Unit.unit))))))))
theorem r17_ok : PureOk Go.Proofs.Tryz.prog nG gG 17 [(.pair (.int .i64) (.pair (.int .i64) (.pair (.slice (.slice (.pair (.int .i64) (.pair (.int .i64) .unit)))) (.pair (.slice (.pair .str (.pair (.pair (.int .i64) (.pair (.int .i64) (.pair .str (.pair .bool .unit)))) .unit))) (.pair (.int .i64) (.pair (.int .i64) .unit))))))] [(.int .i64)] r17 :=
  pureOk_of_run (F := specOf [(45, pureSpec [(.int .i64), (.slice (.slice (.pair (.int .i64) (.pair (.int .i64) .unit))))] [(.int .i64)] r45), (46, pureSpec [(.slice (.pair .str (.pair (.pair (.int .i64) (.pair (.int .i64) (.pair .str (.pair .bool .unit)))) .unit))), .bool] [(.int .i64)] r46)]) (hs := hintOf []) stays_G (specOf_cons (PureOk.spec r45_ok) (specOf_cons (PureOk.spec r46_ok) specOf_nil)) mixed Go.Proofs.Tryz.func17 rfl (by kernel_rfl) (fun _ => by kernel_rfl)

/-- terrier/terrref2.SurveyErr -/
noncomputable def r7 (x : (kdP [(.slice (.pair (.int .i64) (.pair (.int .i64) (.pair (.slice (.slice (.pair (.int .i64) (.pair (.int .i64) .unit)))) (.pair (.slice (.pair .str (.pair (.pair (.int .i64) (.pair (.int .i64) (.pair .str (.pair .bool .unit)))) .unit))) (.pair (.int .i64) (.pair (.int .i64) .unit)))))))]).T) : Option (kdP [(.int .i64)]).T :=
  (cond (Decidable.decide (LT.lt (200 : Int) (Nat.cast (List.length x.1) : Int))) (Option.some ((2 : Int), Unit.unit)) (Option.bind (loop (D := (Prod (Kd.T (.pair (.int .i64) (.pair (.int .i64) .unit))) (Kd.T .unit))) (O := (Sum (Kd.T (.pair (.pair (.int .i64) .unit) .unit)) (OutT (List.cons ((Ex3.exit 0), (Sh.mk (List.nil) (List.nil) (List.nil))) (List.nil))))) (fun x0 => (cond (Decidable.decide (LT.lt x0.1.2.1 (Nat.cast (List.length x.1) : Int))) (cond (inB x0.1.2.1 (List.length x.1)) (Option.bind (GetElem?.getElem? x.1 (Int.toNat x0.1.2.1)) (fun x1 => (Option.bind (r17 ((x1.1, (x1.2.1, (x1.2.2.1, (x1.2.2.2.1, (x1.2.2.2.2.1, (x1.2.2.2.2.2.1, Unit.unit)))))), Unit.unit)) (fun x2 => (cond (Bool.not (Decidable.decide (Eq x2.1 (0 : Int)))) (Option.some (Sum.inr (Sum.inl ((x2.1, Unit.unit), Unit.unit)))) (cond (Decidable.decide (LE.le x1.1 x0.1.1)) (Option.some (Sum.inr (Sum.inl (((9 : Int), Unit.unit), Unit.unit)))) (Option.some (Sum.inl ((x1.1, ((IntKind.wrap IntKind.i64 (HAdd.hAdd x0.1.2.1 (1 : Int))), Unit.unit)), Unit.unit))))))))) (Option.none)) (Option.some (Sum.inr (Sum.inr (Sum.inl (Unit.unit, Unit.unit))))))) (((0 : Int), ((0 : Int), Unit.unit)), Unit.unit)) (sumE (fun x0 => (Option.some (x0.1.1, Unit.unit))) (sumE (fun x0 => (Option.some ((0 : Int), Unit.unit))) (emptyE)))))
theorem r7_ok : PureOk Go.Proofs.Tryz.prog nG gG 7 [(.slice (.pair (.int .i64) (.pair (.int .i64) (.pair (.slice (.slice (.pair (.int .i64) (.pair (.int .i64) .unit)))) (.pair (.slice (.pair .str (.pair (.pair (.int .i64) (.pair (.int .i64) (.pair .str (.pair .bool .unit)))) .unit))) (.pair (.int .i64) (.pair (.int .i64) .unit)))))))] [(.int .i64)] r7 :=
  pureOk_of_run (F := specOf [(17, pureSpec [(.pair (.int .i64) (.pair (.int .i64) (.pair (.slice (.slice (.pair (.int .i64) (.pair (.int .i64) .unit)))) (.pair (.slice (.pair .str (.pair (.pair (.int .i64) (.pair (.int .i64) (.pair .str (.pair .bool .unit)))) .unit))) (.pair (.int .i64) (.pair (.int .i64) .unit))))))] [(.int .i64)] r17)]) (hs := hintOf [(0, ⟨⟨[(3, .lf (.int .i64)), (12, .lf (.int .i64))], [], []⟩, [(.ret, ⟨[(2, .lf (.int .i64))], [], []⟩), ((.exit 0), ⟨[], [], []⟩)]⟩)]) stays_G (specOf_cons (PureOk.spec r17_ok) specOf_nil) mixed Go.Proofs.Tryz.func7 rfl (by kernel_rfl) (fun _ => by kernel_rfl)

/-- terrier/terrref2.kinds -/
noncomputable def r33 (x : (kdP []).T) : Option (kdP [(.slice .str)]).T :=
  (Option.some ((List.cons (ByteArray.mk (List.toArray (List.nil))) (List.cons (ByteArray.mk (List.toArray (List.cons (100 : UInt8) (List.cons (111 : UInt8) (List.cons (116 : UInt8) (List.cons (115 : UInt8) (List.nil))))))) (List.cons (ByteArray.mk (List.toArray (List.cons (108 : UInt8) (List.cons (105 : UInt8) (List.cons (110 : UInt8) (List.cons (101 : UInt8) (List.cons (115 : UInt8) (List.nil)))))))) (List.cons (ByteArray.mk (List.toArray (List.cons (97 : UInt8) (List.cons (114 : UInt8) (List.cons (101 : UInt8) (List.cons (97 : UInt8) (List.cons (115 : UInt8) (List.nil)))))))) (List.nil))))), Unit.unit))
theorem r33_ok : PureOk Go.Proofs.Tryz.prog nG gG 33 [] [(.slice .str)] r33 :=
  pureOk_of_run (F := specOf []) (hs := hintOf []) stays_G specOf_nil mixed Go.Proofs.Tryz.func33 rfl (by kernel_rfl) (fun _ => by kernel_rfl)

/-- terrier/terrref2.Shown -/
noncomputable def r34 (x : (kdP [(.pair (.int .i64) (.pair (.int .i64) (.pair .str (.pair .bool .unit))))]).T) : Option (kdP [.str]).T :=
  (cond (Decidable.decide (Eq x.1.1 (0 : Int))) (Option.some ((ByteArray.mk (List.toArray (List.cons (110 : UInt8) (List.cons (105 : UInt8) (List.cons (108 : UInt8) (List.nil)))))), Unit.unit)) (cond (Decidable.decide (Eq x.1.1 (1 : Int))) (Option.bind (r56 (x.1.2.1, ((10 : Int), Unit.unit))) (fun x0 => (Option.some (x0.1, Unit.unit)))) (cond (Decidable.decide (Eq x.1.1 (2 : Int))) (Option.bind (r32 ((List.cons (ByteArray.mk (List.toArray (List.nil))) (List.cons x.1.2.2.1 (List.cons (ByteArray.mk (List.toArray (List.nil))) (List.nil)))), ((ByteArray.mk (List.toArray (List.cons (34 : UInt8) (List.nil)))), Unit.unit))) (fun x0 => (Option.some (x0.1, Unit.unit)))) (cond (Decidable.decide (Eq x.1.1 (3 : Int))) (cond x.1.2.2.2.1 (Option.some ((ByteArray.mk (List.toArray (List.cons (116 : UInt8) (List.cons (114 : UInt8) (List.cons (117 : UInt8) (List.cons (101 : UInt8) (List.nil))))))), Unit.unit)) (Option.some ((ByteArray.mk (List.toArray (List.cons (102 : UInt8) (List.cons (97 : UInt8) (List.cons (108 : UInt8) (List.cons (115 : UInt8) (List.cons (101 : UInt8) (List.nil)))))))), Unit.unit))) (Option.some ((ByteArray.mk (List.toArray (List.cons (63 : UInt8) (List.nil)))), Unit.unit))))))
theorem r34_ok : PureOk Go.Proofs.Tryz.prog nG gG 34 [(.pair (.int .i64) (.pair (.int .i64) (.pair .str (.pair .bool .unit))))] [.str] r34 :=
  pureOk_of_run (F := specOf [(56, pureSpec [(.int .i64), (.int .i64)] [.str] r56), (32, pureSpec [(.slice .str), .str] [.str] r32)]) (hs := hintOf []) stays_G (specOf_cons (PureOk.spec r56_ok) (specOf_cons (PureOk.spec r32_ok) specOf_nil)) mixed Go.Proofs.Tryz.func34 rfl (by kernel_rfl) (fun _ => by kernel_rfl)

/-- terrier/terrref2.Lines -/
noncomputable def r8 (x : (kdP [(.slice (.pair (.int .i64) (.pair (.int .i64) (.pair (.slice (.slice (.pair (.int .i64) (.pair (.int .i64) .unit)))) (.pair (.slice (.pair .str (.pair (.pair (.int .i64) (.pair (.int .i64) (.pair .str (.pair .bool .unit)))) .unit))) (.pair (.int .i64) (.pair (.int .i64) .unit)))))))]).T) : Option (kdP [.str]).T :=
  (Option.bind (loop (D := (Prod (Kd.T (.pair (.slice .str) (.pair (.int .i64) .unit))) (Kd.T .unit))) (O := (Sum (Kd.T (.pair (.pair (.slice .str) .unit) .unit)) (OutT (List.nil)))) (fun x0 => (cond (Decidable.decide (LT.lt x0.1.2.1 (Nat.cast (List.length x.1) : Int))) (cond (inB x0.1.2.1 (List.length x.1)) (Option.bind (GetElem?.getElem? x.1 (Int.toNat x0.1.2.1)) (fun x1 => (Option.bind (r33 Unit.unit) (fun x2 => (cond (inB x1.2.1 (List.length x2.1)) (Option.bind (GetElem?.getElem? x2.1 (Int.toNat x1.2.1)) (fun x3 => (Option.bind (r28 (x1.1, Unit.unit)) (fun x4 => (Option.bind (r28 (x1.2.2.2.2.1, Unit.unit)) (fun x5 => (Option.bind (r28 (x1.2.2.2.2.2.1, Unit.unit)) (fun x6 => (Option.bind (r32 ((List.cons x3 (List.cons x4.1 (List.cons x5.1 (List.cons x6.1 (List.nil))))), ((ByteArray.mk (List.toArray (List.cons (32 : UInt8) (List.nil)))), Unit.unit))) (fun x7 => (cond (fits (HAdd.hAdd (List.length x0.1.1) (List.length (List.cons x7.1 (List.nil)))) 16) (Option.bind (loop (D := (Prod (Kd.T (.pair (.slice .str) (.pair (.int .i64) .unit))) (Kd.T .unit))) (O := (Sum (Kd.T (.pair (.pair (.slice .str) .unit) .unit)) (OutT (List.nil)))) (fun x8 => (cond (Decidable.decide (LT.lt x8.1.2.1 (Nat.cast (List.length x1.2.2.1) : Int))) (cond (inB x8.1.2.1 (List.length x1.2.2.1)) (Option.bind (GetElem?.getElem? x1.2.2.1 (Int.toNat x8.1.2.1)) (fun x9 => (Option.bind (loop (D := (Prod (Kd.T (.pair .str (.pair (.int .i64) .unit))) (Kd.T .unit))) (O := (Sum (Kd.T (.pair (.pair .str .unit) .unit)) (OutT (List.nil)))) (fun x10 => (cond (Decidable.decide (LT.lt x10.1.2.1 (Nat.cast (List.length x9) : Int))) (cond (inB x10.1.2.1 (List.length x9)) (Option.bind (GetElem?.getElem? x9 (Int.toNat x10.1.2.1)) (fun x11 => (Option.bind (r28 (x11.1, Unit.unit)) (fun x12 => (cond (Decidable.decide (LT.lt 9223372036854775807 (HAdd.hAdd (ByteArray.size (ByteArray.mk (List.toArray (List.cons (32 : UInt8) (List.nil))))) (ByteArray.size x12.1)))) (Option.none) (cond (Decidable.decide (LT.lt 9223372036854775807 (HAdd.hAdd (ByteArray.size (HAppend.hAppend (ByteArray.mk (List.toArray (List.cons (32 : UInt8) (List.nil)))) x12.1)) (ByteArray.size (ByteArray.mk (List.toArray (List.cons (44 : UInt8) (List.nil)))))))) (Option.none) (Option.bind (r28 (x11.2.1, Unit.unit)) (fun x13 => (cond (Decidable.decide (LT.lt 9223372036854775807 (HAdd.hAdd (ByteArray.size (HAppend.hAppend (HAppend.hAppend (ByteArray.mk (List.toArray (List.cons (32 : UInt8) (List.nil)))) x12.1) (ByteArray.mk (List.toArray (List.cons (44 : UInt8) (List.nil)))))) (ByteArray.size x13.1)))) (Option.none) (cond (Decidable.decide (LT.lt 9223372036854775807 (HAdd.hAdd (ByteArray.size x10.1.1) (ByteArray.size (HAppend.hAppend (HAppend.hAppend (HAppend.hAppend (ByteArray.mk (List.toArray (List.cons (32 : UInt8) (List.nil)))) x12.1) (ByteArray.mk (List.toArray (List.cons (44 : UInt8) (List.nil))))) x13.1))))) (Option.none) (Option.some (Sum.inl (((HAppend.hAppend x10.1.1 (HAppend.hAppend (HAppend.hAppend (HAppend.hAppend (ByteArray.mk (List.toArray (List.cons (32 : UInt8) (List.nil)))) x12.1) (ByteArray.mk (List.toArray (List.cons (44 : UInt8) (List.nil))))) x13.1)), ((IntKind.wrap IntKind.i64 (HAdd.hAdd x10.1.2.1 (1 : Int))), Unit.unit)), Unit.unit))))))))))))) (Option.none)) (Option.some (Sum.inr (Sum.inl ((x10.1.1, Unit.unit), Unit.unit)))))) (((ByteArray.mk (List.toArray (List.cons (64 : UInt8) (List.nil)))), ((0 : Int), Unit.unit)), Unit.unit)) (sumE (fun x10 => (cond (fits (HAdd.hAdd (List.length x8.1.1) (List.length (List.cons x10.1.1 (List.nil)))) 16) (Option.some (Sum.inl (((HAppend.hAppend x8.1.1 (List.cons x10.1.1 (List.nil))), ((IntKind.wrap IntKind.i64 (HAdd.hAdd x8.1.2.1 (1 : Int))), Unit.unit)), Unit.unit))) (Option.none))) (emptyE))))) (Option.none)) (Option.some (Sum.inr (Sum.inl ((x8.1.1, Unit.unit), Unit.unit)))))) (((HAppend.hAppend x0.1.1 (List.cons x7.1 (List.nil))), ((0 : Int), Unit.unit)), Unit.unit)) (sumE (fun x8 => (Option.bind (loop (D := (Prod (Kd.T (.pair (.slice .str) (.pair (.int .i64) .unit))) (Kd.T .unit))) (O := (Sum (Kd.T (.pair (.pair (.slice .str) .unit) .unit)) (OutT (List.nil)))) (fun x9 => (cond (Decidable.decide (LT.lt x9.1.2.1 (Nat.cast (List.length x1.2.2.2.1) : Int))) (cond (inB x9.1.2.1 (List.length x1.2.2.2.1)) (Option.bind (GetElem?.getElem? x1.2.2.2.1 (Int.toNat x9.1.2.1)) (fun x10 => (cond (Decidable.decide (LT.lt 9223372036854775807 (HAdd.hAdd (ByteArray.size x10.1) (ByteArray.size (ByteArray.mk (List.toArray (List.cons (61 : UInt8) (List.nil)))))))) (Option.none) (Option.bind (r34 ((x10.2.1.1, (x10.2.1.2.1, (x10.2.1.2.2.1, (x10.2.1.2.2.2.1, Unit.unit)))), Unit.unit)) (fun x11 => (cond (Decidable.decide (LT.lt 9223372036854775807 (HAdd.hAdd (ByteArray.size (HAppend.hAppend x10.1 (ByteArray.mk (List.toArray (List.cons (61 : UInt8) (List.nil)))))) (ByteArray.size x11.1)))) (Option.none) (cond (fits (HAdd.hAdd (List.length x9.1.1) (List.length (List.cons (HAppend.hAppend (HAppend.hAppend x10.1 (ByteArray.mk (List.toArray (List.cons (61 : UInt8) (List.nil))))) x11.1) (List.nil)))) 16) (Option.some (Sum.inl (((HAppend.hAppend x9.1.1 (List.cons (HAppend.hAppend (HAppend.hAppend x10.1 (ByteArray.mk (List.toArray (List.cons (61 : UInt8) (List.nil))))) x11.1) (List.nil))), ((IntKind.wrap IntKind.i64 (HAdd.hAdd x9.1.2.1 (1 : Int))), Unit.unit)), Unit.unit))) (Option.none)))))))) (Option.none)) (Option.some (Sum.inr (Sum.inl ((x9.1.1, Unit.unit), Unit.unit)))))) ((x8.1.1, ((0 : Int), Unit.unit)), Unit.unit)) (sumE (fun x9 => (Option.some (Sum.inl ((x9.1.1, ((IntKind.wrap IntKind.i64 (HAdd.hAdd x0.1.2.1 (1 : Int))), Unit.unit)), Unit.unit)))) (emptyE)))) (emptyE))) (Option.none)))))))))))) (Option.none)))))) (Option.none)) (Option.some (Sum.inr (Sum.inl ((x0.1.1, Unit.unit), Unit.unit)))))) (((List.nil), ((0 : Int), Unit.unit)), Unit.unit)) (sumE (fun x0 => (cond (fits (HAdd.hAdd (List.length x0.1.1) 1) 16) (Option.bind (r32 ((HAppend.hAppend x0.1.1 (List.cons (ByteArray.mk (List.toArray (List.nil))) (List.nil))), ((ByteArray.mk (List.toArray (List.cons (10 : UInt8) (List.nil)))), Unit.unit))) (fun x1 => (Option.some (x1.1, Unit.unit)))) (Option.none))) (emptyE)))
theorem r8_ok : PureOk Go.Proofs.Tryz.prog nG gG 8 [(.slice (.pair (.int .i64) (.pair (.int .i64) (.pair (.slice (.slice (.pair (.int .i64) (.pair (.int .i64) .unit)))) (.pair (.slice (.pair .str (.pair (.pair (.int .i64) (.pair (.int .i64) (.pair .str (.pair .bool .unit)))) .unit))) (.pair (.int .i64) (.pair (.int .i64) .unit)))))))] [.str] r8 :=
  pureOk_of_run (F := specOf [(33, pureSpec [] [(.slice .str)] r33), (28, pureSpec [(.int .i64)] [.str] r28), (32, pureSpec [(.slice .str), .str] [.str] r32), (34, pureSpec [(.pair (.int .i64) (.pair (.int .i64) (.pair .str (.pair .bool .unit))))] [.str] r34)]) (hs := hintOf [(6, ⟨⟨[(3, .own .str), (71, .lf (.int .i64))], [], []⟩, [((.exit 6), ⟨[(3, .own .str)], [], []⟩)]⟩), (4, ⟨⟨[(8, .lf .str), (47, .lf (.int .i64))], [], []⟩, [((.exit 4), ⟨[(8, .lf .str)], [], []⟩)]⟩), (2, ⟨⟨[(3, .own .str), (41, .lf (.int .i64))], [], []⟩, [((.exit 2), ⟨[(3, .own .str)], [], []⟩)]⟩), (0, ⟨⟨[(3, .own .str), (15, .lf (.int .i64))], [], []⟩, [((.exit 0), ⟨[(3, .own .str)], [], []⟩)]⟩)]) stays_G (specOf_cons (PureOk.spec r33_ok) (specOf_cons (PureOk.spec r28_ok) (specOf_cons (PureOk.spec r32_ok) (specOf_cons (PureOk.spec r34_ok) specOf_nil)))) mixed Go.Proofs.Tryz.func8 rfl (by kernel_rfl) (fun _ => by kernel_rfl)

/-- terrier/terrlaw2.SurveyWrites -/
noncomputable def r3 (x : (kdP [(.slice (.pair (.int .i64) (.pair (.int .i64) (.pair (.slice (.slice (.pair (.int .i64) (.pair (.int .i64) .unit)))) (.pair (.slice (.pair .str (.pair (.pair (.int .i64) (.pair (.int .i64) (.pair .str (.pair .bool .unit)))) .unit))) (.pair (.int .i64) (.pair (.int .i64) .unit)))))))]).T) : Option (kdP [.bool]).T :=
  (Option.bind (r5 Unit.unit) (fun x0 => (cond (Bool.not x0.1) (Option.some (Bool.false, Unit.unit)) (Option.bind (r6 (x.1, Unit.unit)) (fun x1 => (Option.bind (r7 (x.1, Unit.unit)) (fun x2 => (cond (Decidable.decide (Eq x2.1 (0 : Int))) (Option.bind (r8 (x.1, Unit.unit)) (fun x3 => (cond (Decidable.decide (LT.lt (65536 : Int) (Nat.cast (ByteArray.size x3.1) : Int))) (cond (Decidable.decide (Eq x1.2.1 (2 : Int))) (Option.some ((Decidable.decide (Eq x1.1 (ByteArray.mk (List.toArray (List.nil))))), Unit.unit)) (Option.some (Bool.false, Unit.unit))) (cond (Bool.not (Decidable.decide (Eq x2.1 (0 : Int)))) (cond (Decidable.decide (Eq x1.2.1 x2.1)) (Option.some ((Decidable.decide (Eq x1.1 (ByteArray.mk (List.toArray (List.nil))))), Unit.unit)) (Option.some (Bool.false, Unit.unit))) (cond (Decidable.decide (Eq x1.2.1 (0 : Int))) (Option.bind (r8 (x.1, Unit.unit)) (fun x4 => (Option.some ((Decidable.decide (Eq x1.1 x4.1)), Unit.unit)))) (Option.some (Bool.false, Unit.unit))))))) (cond (Bool.not (Decidable.decide (Eq x2.1 (0 : Int)))) (cond (Decidable.decide (Eq x1.2.1 x2.1)) (Option.some ((Decidable.decide (Eq x1.1 (ByteArray.mk (List.toArray (List.nil))))), Unit.unit)) (Option.some (Bool.false, Unit.unit))) (cond (Decidable.decide (Eq x1.2.1 (0 : Int))) (Option.bind (r8 (x.1, Unit.unit)) (fun x3 => (Option.some ((Decidable.decide (Eq x1.1 x3.1)), Unit.unit)))) (Option.some (Bool.false, Unit.unit))))))))))))
theorem r3_ok : PureOk Go.Proofs.Tryz.prog nG gG 3 [(.slice (.pair (.int .i64) (.pair (.int .i64) (.pair (.slice (.slice (.pair (.int .i64) (.pair (.int .i64) .unit)))) (.pair (.slice (.pair .str (.pair (.pair (.int .i64) (.pair (.int .i64) (.pair .str (.pair .bool .unit)))) .unit))) (.pair (.int .i64) (.pair (.int .i64) .unit)))))))] [.bool] r3 :=
  pureOk_of_run (F := specOf [(5, pureSpec [] [.bool] r5), (6, pureSpec [(.slice (.pair (.int .i64) (.pair (.int .i64) (.pair (.slice (.slice (.pair (.int .i64) (.pair (.int .i64) .unit)))) (.pair (.slice (.pair .str (.pair (.pair (.int .i64) (.pair (.int .i64) (.pair .str (.pair .bool .unit)))) .unit))) (.pair (.int .i64) (.pair (.int .i64) .unit)))))))] [.str, (.int .i64)] r6), (7, pureSpec [(.slice (.pair (.int .i64) (.pair (.int .i64) (.pair (.slice (.slice (.pair (.int .i64) (.pair (.int .i64) .unit)))) (.pair (.slice (.pair .str (.pair (.pair (.int .i64) (.pair (.int .i64) (.pair .str (.pair .bool .unit)))) .unit))) (.pair (.int .i64) (.pair (.int .i64) .unit)))))))] [(.int .i64)] r7), (8, pureSpec [(.slice (.pair (.int .i64) (.pair (.int .i64) (.pair (.slice (.slice (.pair (.int .i64) (.pair (.int .i64) .unit)))) (.pair (.slice (.pair .str (.pair (.pair (.int .i64) (.pair (.int .i64) (.pair .str (.pair .bool .unit)))) .unit))) (.pair (.int .i64) (.pair (.int .i64) .unit)))))))] [.str] r8)]) (hs := hintOf []) stays_G (specOf_cons (PureOk.spec r5_ok) (specOf_cons (PureOk.spec r6_ok) (specOf_cons (PureOk.spec r7_ok) (specOf_cons (PureOk.spec r8_ok) specOf_nil)))) mixed Go.Proofs.Tryz.func3 rfl (by kernel_rfl) (fun _ => by kernel_rfl)

end Go.Proofs.YtgabpbnndikheaaGreatDoor.I

/-! Loops over lists and bytes, plainly. Of no program. -/
namespace Go.Proofs.YtgabpbnndikheaaGreatDoor.I
open Go.RowKit
set_option linter.unusedVariables false
/-- A loop over a list, told by recursion. -/
def foldL {α S O : Type} (body : Nat → α → S → Option (S ⊕ O)) (out : S → O) : Nat → List α → S → Option O
  | _, [], s => some (out s)
  | i, a :: l, s => match body i a s with
    | none => none
    | some (.inl s') => foldL body out (i + 1) l s'
    | some (.inr o) => some o
def stepTo {D S O : Type} (emb : Int → S → D) (i : Nat) : Option (S ⊕ O) → Option (D ⊕ O)
  | none => none
  | some (.inl s') => some (.inl (emb ((i : Int) + 1) s'))
  | some (.inr o) => some (.inr o)
theorem loop_from {α S D O : Type} {step : D → Option (D ⊕ O)} (emb : Int → S → D) (xs : List α) (body : Nat → α → S → Option (S ⊕ O)) (out : S → O)
    (hin : ∀ (i : Nat) a s, xs[i]? = some a → step (emb i s) = stepTo emb i (body i a s))
    (hend : ∀ s, step (emb (xs.length : Int) s) = some (.inr (out s))) : ∀ (l : List α) (i : Nat) (s : S), i ≤ xs.length → xs.drop i = l → loop step (emb i s) = foldL body out i l s
  | [], i, s, hi, hl => by
    have : i = xs.length := by
      have := congrArg List.length hl
      simp at this; omega
    subst this
    rw [loop_eq, hend]
    rfl
  | a :: l, i, s, hi, hl => by
    have ha : xs[i]? = some a := by
      have := congrArg (fun l => l[0]?) hl
      simpa using this
    have hlt : i < xs.length := (List.getElem?_eq_some_iff.1 ha).1
    have hd : xs.drop (i + 1) = l := by rw [← List.drop_drop, hl]; rfl
    rw [loop_eq, hin i a s ha]
    simp only [foldL]
    cases hb : body i a s with
    | none => rfl
    | some r =>
      cases r with
      | inr o => rfl
      | inl s' =>
        simp only [stepTo]
        exact loop_from emb xs body out hin hend l (i + 1) s' hlt hd
theorem loop_list {α S D O : Type} {step : D → Option (D ⊕ O)} (emb : Int → S → D) (xs : List α) (body : Nat → α → S → Option (S ⊕ O)) (out : S → O)
    (hin : ∀ (i : Nat) a s, xs[i]? = some a → step (emb i s) = stepTo emb i (body i a s))
    (hend : ∀ s, step (emb (xs.length : Int) s) = some (.inr (out s))) (s : S) : loop step (emb 0 s) = foldL body out 0 xs s :=
  loop_from emb xs body out hin hend xs 0 s (Nat.zero_le _) rfl
theorem wrap64 {n : Int} (h1 : -9223372036854775808 ≤ n) (h2 : n ≤ 9223372036854775807) : IntKind.wrap .i64 n = n := by
  unfold IntKind.wrap
  simp only [IntKind.signed, IntKind.bits]
  simp
  omega
theorem lt_of_get {α : Type} {xs : List α} {i : Nat} {a : α} (h : xs[i]? = some a) : i < xs.length := (List.getElem?_eq_some_iff.1 h).1
theorem dec_lt {i n : Nat} (h : i < n) : decide ((i : Int) < (n : Int)) = true := by simp; omega
theorem dec_nlt {i : Nat} : decide ((i : Int) < (i : Int)) = false := by simp
theorem inB_lt {i n : Nat} (h : i < n) : inB (i : Int) n = true := by unfold inB; simp; omega
theorem wrapS {i n : Nat} (h : i < n) (hn : n ≤ 9223372036854775807) : IntKind.wrap .i64 ((i : Int) + 1) = (i : Int) + 1 := wrap64 (by omega) (by omega)
theorem bytes_get {s : ByteArray} {i : Nat} : strAt s (i : Int) = s.data.toList[i]? := by
  unfold strAt
  rw [if_pos (by omega)]
  simp only [Int.toNat_natCast]
  show s[i]? = _
  cases h : s.data.toList[i]? with
  | none =>
    have := List.getElem?_eq_none_iff.1 h
    rw [Array.length_toList] at this
    exact getElem?_neg s i (by show ¬ i < s.data.size; omega)
  | some b =>
    have h2 := (List.getElem?_eq_some_iff.1 h)
    obtain ⟨h3, h4⟩ := h2
    rw [Array.length_toList] at h3
    rw [getElem?_pos s i h3]
    congr 1
theorem bytes_len {s : ByteArray} : s.size = s.data.toList.length := by rw [Array.length_toList]; rfl
end Go.Proofs.YtgabpbnndikheaaGreatDoor.I
