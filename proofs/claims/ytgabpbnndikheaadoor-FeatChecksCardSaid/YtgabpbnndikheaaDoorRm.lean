import Derived.Test.YtgabpbnndikheaaDoorRn
/-! A region that draws its order, makes new blocks and stores into them, in whatever order. -/
namespace Go.Proofs.YtgabpbnndikheaaDoor
open Go.RowKit
section
variable {P : Program}

/-- What an operation does: it comes to a value; it makes a new block; it stores into the block that another one made. -/
inductive Kin where
  | val (f : Fact)
  | new (b : Obj)
  | put (i : Nat) (b b' : Obj)
def ptrTo (g : Nat) : Value := .pointer (some ⟨g, 0, none⟩)
def edgeM (ks : List Kin) (xs : Nat → Value) (w : World) : List Edge → Prop
  | [] => True
  | e :: es => (match Region.binds .any e, ks[e.on]? with
      | true, some (.val f) => f.at_ (xs e.on) w
      | _, _ => True) ∧ edgeM ks xs w es
def stepM (P : Program) (ops : Array Oper) (w0 : World) (fr : (Nat → Value) → Act) (ks : List Kin) (o : Oper) : Kin → Prop
  | .val f => (∀ u w w', Below w0.heap.size w w' → f.at_ u w → f.at_ u w') ∧
      ∀ xs w, Below w0.heap.size w0 w → edgeM ks xs w o.after.toList → if Region.wanted o (yielded ops (fr xs).tmps) then locRun P o (fr xs) w f else f.at_ undef w
  | .new b => ∀ xs w, Below w0.heap.size w0 w → edgeM ks xs w o.after.toList → Region.wanted o (yielded ops (fr xs).tmps) = true ∧ (execOp (fr xs).eval o).run P w = .ok (.value (ptrTo w.heap.size)) (w.alloc b)
  | .put i b b' => ks[i]? = some (.new b) ∧ (o.after.toList.any fun e => Region.binds .any e && (e.on == i)) = true ∧ o.dst = none ∧
      ∀ xs w g, Below w0.heap.size w0 w → edgeM ks xs w o.after.toList → xs i = ptrTo g → w0.heap.size ≤ g → w.heap[g]? = some b →
        Region.wanted o (yielded ops (fr xs).tmps) = true ∧ ∃ w', (execOp (fr xs).eval o).run P w = .ok .skip w' ∧ Below w0.heap.size w w' ∧ (∀ k, k ≠ g → w'.heap[k]? = w.heap[k]?) ∧ w'.heap[g]? = some b'
def factsM (n : Nat) (xs : Nat → Value) (w : World) : Nat → List Kin → Prop
  | _, [] => True
  | k, .val f :: l => f.at_ (xs k) w ∧ factsM n xs w (k + 1) l
  | k, .new _ :: l => (∃ g, xs k = ptrTo g ∧ n ≤ g) ∧ factsM n xs w (k + 1) l
  | k, .put i _ b' :: l => (∃ g, xs i = ptrTo g ∧ w.heap[g]? = some b') ∧ factsM n xs w (k + 1) l
def newsM : Nat → List Kin → List Nat
  | _, [] => []
  | k, .new _ :: l => k :: newsM (k + 1) l
  | k, _ :: l => newsM (k + 1) l
def putsM : List Kin → List Nat
  | [] => []
  | .put i _ _ :: l => i :: putsM l
  | _ :: l => putsM l
def wpLocM (P : Program) (ops : Array Oper) (w0 : World) (fr : (Nat → Value) → Act) (Q : Act → World → Prop) : List Oper → List Kin → Prop
  | [], ks => (putsM ks).Nodup ∧ ∀ xs w, Below w0.heap.size w0 w → factsM w0.heap.size xs w 0 ks → Apart (newsM 0 ks) xs → Q (fr xs) w
  | o :: rest, ks => ∃ k : Kin, stepM P ops w0 fr ks o k ∧ wpLocM P ops w0 fr Q rest (ks ++ [k])

theorem putsM_mem : ∀ {ks : List Kin} {s i : Nat} {b b' : Obj}, ks[s]? = some (.put i b b') → i ∈ putsM ks
  | [], s, _, _, _, h => by simp at h
  | k :: l, 0, i, b, b', h => by
    simp at h
    subst h
    simp [putsM]
  | k :: l, s + 1, i, b, b', h => by
    simp at h
    have := putsM_mem h
    cases k <;> simp [putsM, this]
theorem putsM_one : ∀ {ks : List Kin} {s s' i : Nat} {b b' c c' : Obj}, (putsM ks).Nodup → ks[s]? = some (.put i b b') → ks[s']? = some (.put i c c') → s = s'
  | [], s, _, _, _, _, _, _, _, h, _ => by simp at h
  | k :: l, 0, 0, _, _, _, _, _, _, _, _ => rfl
  | k :: l, 0, s' + 1, i, b, b', c, c', hn, h, h' => by
    simp at h h'
    subst h
    simp only [putsM, List.nodup_cons] at hn
    exact absurd (putsM_mem h') hn.1
  | k :: l, s + 1, 0, i, b, b', c, c', hn, h, h' => by
    simp at h h'
    subst h'
    simp only [putsM, List.nodup_cons] at hn
    exact absurd (putsM_mem h) hn.1
  | k :: l, s + 1, s' + 1, i, b, b', c, c', hn, h, h' => by
    simp at h h'
    have hn' : (putsM l).Nodup := by
      cases k <;> simp only [putsM, List.nodup_cons] at hn
      · exact hn
      · exact hn
      · exact hn.2
    rw [putsM_one hn' h h']
theorem newsM_mem : ∀ {ks : List Kin} {k i : Nat}, i ∈ newsM k ks → k ≤ i ∧ ∃ b, ks[i - k]? = some (.new b)
  | [], _, _, h => by simp [newsM] at h
  | .new b :: l, k, i, h => by
    simp only [newsM, List.mem_cons] at h
    rcases h with h | h
    · subst h; simp
    · obtain ⟨h1, b', h2⟩ := newsM_mem h
      refine ⟨by omega, b', ?_⟩
      rw [show i - k = (i - (k + 1)) + 1 by omega, List.getElem?_cons_succ]
      exact h2
  | .val _ :: l, k, i, h => by
    obtain ⟨h1, b', h2⟩ := newsM_mem (show i ∈ newsM (k + 1) l from h)
    refine ⟨by omega, b', ?_⟩
    rw [show i - k = (i - (k + 1)) + 1 by omega, List.getElem?_cons_succ]
    exact h2
  | .put _ _ _ :: l, k, i, h => by
    obtain ⟨h1, b', h2⟩ := newsM_mem (show i ∈ newsM (k + 1) l from h)
    refine ⟨by omega, b', ?_⟩
    rw [show i - k = (i - (k + 1)) + 1 by omega, List.getElem?_cons_succ]
    exact h2

/-- What holds between two operations. -/
structure Between (w0 : World) (ks : List Kin) (listed : Array Bool) (xs : Nat → Value) (w : World) : Prop where
  below : Below w0.heap.size w0 w
  vals : ∀ j f, ks[j]? = some (.val f) → listed.getD j false = true → f.at_ (xs j) w
  news : ∀ i b, ks[i]? = some (.new b) → listed.getD i false = true → ∃ g, xs i = ptrTo g ∧ w0.heap.size ≤ g ∧ g < w.heap.size ∧
    (∀ s b0 b', ks[s]? = some (.put i b0 b') → listed.getD s false = true → w.heap[g]? = some b') ∧ ((∀ s b0 b', ks[s]? = some (.put i b0 b') → listed.getD s false = false) → w.heap[g]? = some b)
  apart : ∀ i j b b', ks[i]? = some (.new b) → ks[j]? = some (.new b') → i ≠ j → listed.getD i false = true → listed.getD j false = true → xs i ≠ xs j
  puts : ∀ s i b b', ks[s]? = some (.put i b b') → listed.getD s false = true → listed.getD i false = true

theorem factsM_of {n : Nat} {xs : Nat → Value} {w : World} : ∀ (ks : List Kin) (k : Nat), (∀ (j : Nat) (f : Fact), ks[j]? = some (Kin.val f) → f.at_ (xs (k + j)) w) → (∀ (j : Nat) (b : Obj), ks[j]? = some (Kin.new b) → ∃ g, xs (k + j) = ptrTo g ∧ n ≤ g) →
    (∀ (j i : Nat) (b b' : Obj), ks[j]? = some (Kin.put i b b') → ∃ g, xs i = ptrTo g ∧ w.heap[g]? = some b') → factsM n xs w k ks
  | [], _, _, _, _ => trivial
  | q :: l, k, h1, h2, h3 => by
    have r := factsM_of (n := n) (xs := xs) (w := w) l (k + 1) (fun j f hj => by have := h1 (j + 1) f (by simpa using hj); rwa [show k + (j + 1) = k + 1 + j by omega] at this)
      (fun j b hj => by have := h2 (j + 1) b (by simpa using hj); rwa [show k + (j + 1) = k + 1 + j by omega] at this) (fun j i b b' hj => h3 (j + 1) i b b' (by simpa using hj))
    cases q with
    | val f => exact ⟨by simpa using h1 0 f rfl, r⟩
    | new b => exact ⟨by simpa using h2 0 b rfl, r⟩
    | put i b b' => exact ⟨h3 0 i b b' rfl, r⟩
theorem edgeM_of {ks : List Kin} {xs : Nat → Value} {w : World} : ∀ (es : List Edge), (∀ e ∈ es, Region.binds .any e = true → ∀ f : Fact, ks[e.on]? = some (Kin.val f) → f.at_ (xs e.on) w) → edgeM ks xs w es
  | [], _ => trivial
  | e :: es, h => ⟨by
      cases hb : Region.binds .any e with
      | false => trivial
      | true =>
        cases hf : ks[e.on]? with
        | none => trivial
        | some k =>
          cases k with
          | val f => exact h e (by simp) hb f hf
          | new b => trivial
          | put i b b' => trivial, edgeM_of es fun e' he => h e' (by simp [he])⟩

/-- The frame with the values put in: a later value takes the former one's place. -/
theorem fill_same : ∀ (l : List Oper) (k : Nat) (b : Act) (ys zs : Nat → Value), (∀ j, k ≤ j → ys j = zs j) → fill k l b ys = fill k l b zs
  | [], _, _, _, _, _ => rfl
  | o :: l, k, b, ys, zs, h => by
    simp only [fill]
    rw [h k (Nat.le_refl _)]
    exact fill_same l (k + 1) _ _ _ fun j hj => h j (by omega)
theorem fill_past {d : Option Tmp} {v : Value} : ∀ (l : List Oper) (k : Nat) (b : Act) (ys : Nat → Value), (∀ x, d = some x → some x ∉ l.map (·.dst)) → (fill k l b ys).put d v = fill k l (b.put d v) ys
  | [], _, _, _, _ => rfl
  | o :: l, k, b, ys, h => by
    simp only [fill]
    rw [fill_past l (k + 1) _ ys fun x hx hm => h x hx (by simp [hm])]
    congr 1
    cases ho : o.dst with
    | none => simp [Act.put]
    | some d' =>
      cases d with
      | none => simp [Act.put]
      | some d => exact Act.put_comm b _ _ (fun d1 h1 h2 => h d rfl (by rw [List.map_cons, ho, h2, h1]; simp))
theorem fill_put' {u : Value} : ∀ (l : List Oper) (k i : Nat) (a : Act) (xs : Nat → Value), ((l.map (·.dst)).filter (·.isSome)).Nodup → i < l.length →
    (fill k l a xs).put ((l[i]?).bind (·.dst)) u = fill k l a (fun j => if j = k + i then u else xs j)
  | [], _, _, _, _, _, h => absurd h (by simp)
  | o :: l, k, i, a, xs, hn, hi => by
    cases i with
    | zero =>
      simp only [List.getElem?_cons_zero, Option.bind_some, fill, Nat.add_zero, if_true]
      cases ho : o.dst with
      | none =>
        have e : ∀ (b : Act) (v : Value), b.put none v = b := fun _ _ => rfl
        rw [e, e, e]
        exact fill_same l (k + 1) _ _ _ fun j hj => by rw [if_neg (by omega)]
      | some d =>
        rw [List.map_cons, ho, List.filter_cons, if_pos (by rfl), List.nodup_cons] at hn
        rw [fill_past l (k + 1) _ xs (fun x hx hm => hn.1 (by rw [List.mem_filter]; injection hx with hx; subst hx; exact ⟨hm, rfl⟩)), put_put]
        exact fill_same l (k + 1) _ _ _ fun j hj => by rw [if_neg (by omega)]
    | succ i =>
      simp only [List.getElem?_cons_succ, fill]
      have hn' : ((l.map (·.dst)).filter (·.isSome)).Nodup := by
        rw [List.map_cons, List.filter_cons] at hn
        split at hn
        · exact (List.nodup_cons.1 hn).2
        · exact hn
      rw [fill_put' l (k + 1) i _ xs hn' (by simpa using hi), if_neg (by omega)]
      exact fill_same l (k + 1) _ _ _ fun j hj => by
        by_cases h : j = k + 1 + i
        · rw [if_pos h, if_pos (by omega)]
        · rw [if_neg h, if_neg (by omega)]

theorem set_true {listed : Array Bool} {i : Nat} (h : i < listed.size) : (listed.setIfInBounds i true).getD i false = true := by simp [h]
theorem mem_any {ops : Array Oper} {w0 : World} {a0 : Act} {Q : Exit → Act → World → Prop} {ks : List Kin} (hn : ((ops.toList.map (·.dst)).filter (·.isSome)).Nodup)
    (hlex : ∀ (j : Nat) (o : Oper), ops[j]? = some o → ∀ e ∈ o.after.toList, Region.binds .any e = true → e.on < j) (hkl : ks.length = ops.size) (hputs : (putsM ks).Nodup)
    (hstep : ∀ (j : Nat) (o : Oper) (k : Kin), ops[j]? = some o → ks[j]? = some k → stepM P ops w0 (fill 0 ops.toList a0) (ks.take j) o k)
    (hend : ∀ xs w, Below w0.heap.size w0 w → factsM w0.heap.size xs w 0 ks → Apart (newsM 0 ks) xs → Q .normal (fill 0 ops.toList a0 xs) w) :
    ∀ (fuel : Nat) (listed : Array Bool) (xs : Nat → Value) (w : World), listed.size = ops.size → (List.range ops.size).countP (fun j => listed.getD j true == false) = fuel → Between w0 ks listed xs w → wpAny P .any ops Q fuel listed (fill 0 ops.toList a0 xs) w := by
  have hdone : ∀ (listed : Array Bool) (xs : Nat → Value) (w : World), listed.size = ops.size → Region.ready .any ops listed = [] → Between w0 ks listed xs w → Q .normal (fill 0 ops.toList a0 xs) w := by
    intro listed xs w hsz hr hB
    have hall : ∀ j, j < ops.size → listed.getD j false = true := by
      intro j
      induction j using Nat.strongRecOn with
      | _ j ih =>
        intro hj
        cases hc : listed.getD j false with
        | true => rfl
        | false =>
          exfalso
          have hmem : j ∈ Region.ready .any ops listed := by
            rw [mem_ready]
            refine ⟨?_, ops[j], Array.getElem?_eq_getElem hj, fun e he hbd => ?_⟩
            · have hjl : j < listed.size := by omega
              simp only [Array.getD_eq_getD_getElem?, Array.getElem?_eq_getElem hjl, Option.getD_some] at hc ⊢
              exact hc
            · have := hlex j _ (Array.getElem?_eq_getElem hj) e (Array.mem_toList_iff.2 he) hbd
              exact ih _ this (by omega)
          rw [hr] at hmem
          cases hmem
    have hl : ∀ (j : Nat) (k : Kin), ks[j]? = some k → listed.getD j false = true := fun j k hj => hall j (by rw [← hkl]; exact (List.getElem?_eq_some_iff.1 hj).1)
    refine hend xs w hB.below (factsM_of ks 0 (fun j f hj => ?_) (fun j b hj => ?_) (fun j i b b' hj => ?_)) ?_
    · rw [Nat.zero_add]
      exact hB.vals j f hj (hl j _ hj)
    · rw [Nat.zero_add]
      obtain ⟨g, h1, h2, _⟩ := hB.news j b hj (hl j _ hj)
      exact ⟨g, h1, h2⟩
    · have hi : ks[i]? = some (.new b) := by
        have hjl := (List.getElem?_eq_some_iff.1 hj).1
        have hst := hstep j ops[j] _ (Array.getElem?_eq_getElem (by omega)) hj
        have h1 := hst.1
        rw [List.getElem?_take] at h1
        split at h1
        · exact h1
        · cases h1
      obtain ⟨g, h1, _, _, h2, _⟩ := hB.news i b hi (hl i _ hi)
      exact ⟨g, h1, h2 j b b' hj (hl j _ hj)⟩
    · intro i hi j hj hij
      obtain ⟨_, b, h1⟩ := newsM_mem hi
      obtain ⟨_, b', h2⟩ := newsM_mem hj
      rw [Nat.sub_zero] at h1 h2
      exact hB.apart i j b b' h1 h2 hij (hl i _ h1) (hl j _ h2)
  have hready : ∀ (listed : Array Bool), (List.range ops.size).countP (fun j => listed.getD j true == false) = 0 → Region.ready .any ops listed = [] := by
    intro listed h
    rw [List.countP_eq_zero] at h
    cases hr : Region.ready .any ops listed with
    | nil => rfl
    | cons j l =>
      exfalso
      have hm : j ∈ Region.ready .any ops listed := by rw [hr]; simp
      rw [mem_ready] at hm
      obtain ⟨h0, o, ho, _⟩ := hm
      exact h j (List.mem_range.2 (Array.getElem?_eq_some_iff.1 ho).1) (by rw [h0]; rfl)
  intro fuel
  induction fuel with
  | zero => exact fun listed xs w hsz hc hB => ⟨hready listed hc, hdone listed xs w hsz (hready listed hc) hB⟩
  | succ fuel ih =>
    intro listed xs w hsz hc hB
    refine ⟨fun hr => hdone listed xs w hsz hr hB, fun i hi => ?_⟩
    have hi' := hi
    rw [mem_ready] at hi'
    obtain ⟨h0, o, ho, hall⟩ := hi'
    have hil : i < ops.size := (Array.getElem?_eq_some_iff.1 ho).1
    have h0' : listed.getD i false = false := by rw [getD_sw (by omega)]; exact h0
    have hki : i < ks.length := by omega
    have hkat := List.getElem?_eq_getElem hki
    have hst := hstep i o ks[i] ho hkat
    have hcs := count_set hsz hil h0
    have hedge : edgeM (ks.take i) xs w o.after.toList := edgeM_of _ fun e he hbd f hfe => by
      have hlt := hlex i o ho e he hbd
      rw [List.getElem?_take, if_pos hlt] at hfe
      exact hB.vals _ f hfe (hall e (Array.mem_toList_iff.1 he) hbd)
    have hput : ∀ u, (fill 0 ops.toList a0 xs).put o.dst u = fill 0 ops.toList a0 (fun j => if j = i then u else xs j) := by
      intro u
      have := fill_put' (u := u) ops.toList 0 i a0 xs hn (by simpa using hil)
      simp only [Nat.zero_add] at this
      rw [show (ops.toList[i]?).bind (·.dst) = o.dst by simp [ho]] at this
      exact this
    have hself : (listed.setIfInBounds i true).getD i false = true := set_true (by omega)
    have hoth : ∀ j, j ≠ i → (listed.setIfInBounds i true).getD j false = listed.getD j false := fun j hj => getD_set_ne false (fun e => hj e.symm)
    have hnext : ∀ u w', Between w0 ks (listed.setIfInBounds i true) (fun j => if j = i then u else xs j) w' → wpAny P .any ops Q fuel (listed.setIfInBounds i true) ((fill 0 ops.toList a0 xs).put o.dst u) w' := by
      intro u w' hb
      rw [hput]
      exact ih _ _ _ (by simpa using hsz) (by omega) hb
    unfold wpOp
    simp only [ho]
    generalize hk : ks[i] = k at hst hkat
    cases k with
    | val f =>
      obtain ⟨hmono, hrun⟩ := hst
      have hrun := hrun xs w hB.below hedge
      have hbet : ∀ u w', Below w.heap.size w w' → f.at_ u w' → Between w0 ks (listed.setIfInBounds i true) (fun j => if j = i then u else xs j) w' := by
        intro u w' hbw hfu
        have hb0 : Below w0.heap.size w w' := hbw.mono hB.below.size
        have hneq : ∀ j b, ks[j]? = some (Kin.new b) → j ≠ i := fun j b hj e => by
          rw [e, hkat] at hj
          cases hj
        refine ⟨hB.below.trans hb0, fun j f' hj hl => ?_, fun j b hj hl => ?_, fun j j' b b' hj hj' hne hl hl' => ?_, fun s j b b' hs hl => ?_⟩
        · by_cases hji : j = i
          · subst hji
            rw [hkat] at hj
            injection hj with hj
            injection hj with hj
            subst hj
            rw [if_pos rfl]
            exact hfu
          · rw [if_neg hji]
            rw [hoth j hji] at hl
            have hjl : j < ops.size := by rw [← hkl]; exact (List.getElem?_eq_some_iff.1 hj).1
            exact (hstep j ops[j] _ (Array.getElem?_eq_getElem hjl) hj).1 _ _ _ hb0 (hB.vals j f' hj hl)
        · have hji := hneq j b hj
          rw [if_neg hji]
          rw [hoth j hji] at hl
          obtain ⟨g, h1, h2, h3, h4, h5⟩ := hB.news j b hj hl
          refine ⟨g, h1, h2, Nat.lt_of_lt_of_le h3 hbw.size, fun s b0 b' hs hls => ?_, fun hno => ?_⟩
          · have hsi : s ≠ i := fun e => by rw [e, hkat] at hs; cases hs
            rw [hoth s hsi] at hls
            rw [hbw.block g h3]
            exact h4 s b0 b' hs hls
          · rw [hbw.block g h3]
            refine h5 fun s b0 b' hs => ?_
            have hsi : s ≠ i := fun e => by rw [e, hkat] at hs; cases hs
            have := hno s b0 b' hs
            rwa [hoth s hsi] at this
        · have h1 := hneq j b hj
          have h2 := hneq j' b' hj'
          rw [if_neg h1, if_neg h2]
          rw [hoth j h1] at hl
          rw [hoth j' h2] at hl'
          exact hB.apart j j' b b' hj hj' hne hl hl'
        · have hsi : s ≠ i := fun e => by rw [e, hkat] at hs; cases hs
          rw [hoth s hsi] at hl
          by_cases hji : j = i
          · rw [hji]; exact hself
          · rw [hoth j hji]; exact hB.puts s j b b' hs hl
      by_cases hw : Region.wanted o (yielded ops (fill 0 ops.toList a0 xs).tmps) = true
      · rw [if_pos hw] at hrun ⊢
        exact .inl (wp_of_loc hrun fun u w' hbw hfu => hnext u w' (hbet u w' hbw hfu))
      · rw [if_neg hw] at hrun ⊢
        exact hnext undef w (hbet undef w (Below.refl _ _) hrun)
    | new b =>
      obtain ⟨hw, hrun⟩ := hst xs w hB.below hedge
      rw [if_pos hw]
      refine .inl ?_
      have hloc : locRun P o (fill 0 ops.toList a0 xs) w (.fresh fun u w' => u = ptrTo w.heap.size ∧ w' = w.alloc b) := by
        unfold locRun
        rw [hrun]
        exact ⟨(Below.refl _ _).alloc (Nat.le_refl _) _, rfl, rfl⟩
      refine wp_of_loc hloc fun u w' hbw hf => hnext u w' ?_
      obtain ⟨hu, hw'⟩ := hf
      have hb0 : Below w0.heap.size w w' := hbw.mono hB.below.size
      have hnoput : ∀ s b0 b', ks[s]? = some (Kin.put i b0 b') → listed.getD s false = false := fun s b0 b' hs => by
        cases hl : listed.getD s false with
        | false => rfl
        | true =>
          have := hB.puts s i b0 b' hs hl
          rw [h0'] at this
          cases this
      refine ⟨hB.below.trans hb0, fun j f' hj hl => ?_, fun j b1 hj hl => ?_, fun j j' b1 b1' hj hj' hne hl hl' => ?_, fun s j b0 b' hs hl => ?_⟩
      · have hji : j ≠ i := fun e => by rw [e, hkat] at hj; cases hj
        rw [if_neg hji]
        rw [hoth j hji] at hl
        have hjl : j < ops.size := by rw [← hkl]; exact (List.getElem?_eq_some_iff.1 hj).1
        exact (hstep j ops[j] _ (Array.getElem?_eq_getElem hjl) hj).1 _ _ _ hb0 (hB.vals j f' hj hl)
      · by_cases hji : j = i
        · subst hji
          rw [hkat] at hj
          injection hj with hj
          injection hj with hj
          subst hj
          rw [if_pos rfl]
          refine ⟨w.heap.size, hu, hB.below.size, by rw [hw', World.size_alloc]; exact Nat.lt_succ_self _, fun s b0 b' hs hls => ?_, fun _ => by rw [hw']; exact heap_alloc_new w b⟩
          have hsi : s ≠ j := fun e => by rw [e, hkat] at hs; cases hs
          rw [hoth s hsi, hnoput s b0 b' hs] at hls
          cases hls
        · rw [if_neg hji]
          rw [hoth j hji] at hl
          obtain ⟨g, h1, h2, h3, h4, h5⟩ := hB.news j b1 hj hl
          refine ⟨g, h1, h2, Nat.lt_of_lt_of_le h3 hbw.size, fun s b0 b' hs hls => ?_, fun hno => ?_⟩
          · have hsi : s ≠ i := fun e => by rw [e, hkat] at hs; cases hs
            rw [hoth s hsi] at hls
            rw [hbw.block g h3]
            exact h4 s b0 b' hs hls
          · rw [hbw.block g h3]
            refine h5 fun s b0 b' hs => ?_
            have hsi : s ≠ i := fun e => by rw [e, hkat] at hs; cases hs
            have := hno s b0 b' hs
            rwa [hoth s hsi] at this
      · by_cases h1 : j = i
        · have h2 : j' ≠ i := fun e => hne (h1.trans e.symm)
          rw [if_pos h1, if_neg h2]
          rw [hoth j' h2] at hl'
          obtain ⟨g, hg, _, hlt, _⟩ := hB.news j' b1' hj' hl'
          rw [hu, hg]
          intro e
          simp only [ptrTo, Value.pointer.injEq, Option.some.injEq, Addr.mk.injEq, and_true] at e
          omega
        · rw [if_neg h1]
          rw [hoth j h1] at hl
          by_cases h2 : j' = i
          · rw [if_pos h2]
            obtain ⟨g, hg, _, hlt, _⟩ := hB.news j b1 hj hl
            rw [hu, hg]
            intro e
            simp only [ptrTo, Value.pointer.injEq, Option.some.injEq, Addr.mk.injEq, and_true] at e
            omega
          · rw [if_neg h2]
            rw [hoth j' h2] at hl'
            exact hB.apart j j' b1 b1' hj hj' hne hl hl'
      · have hsi : s ≠ i := fun e => by rw [e, hkat] at hs; cases hs
        rw [hoth s hsi] at hl
        by_cases hji : j = i
        · rw [hji]; exact hself
        · rw [hoth j hji]; exact hB.puts s j b0 b' hs hl
    | put q b b' =>
      obtain ⟨hq, hedgeq, hdst, hrun⟩ := hst
      have hqk : ks[q]? = some (.new b) := by
        rw [List.getElem?_take] at hq
        split at hq
        · exact hq
        · cases hq
      have hql : listed.getD q false = true := by
        rw [List.any_eq_true] at hedgeq
        obtain ⟨e, he, h⟩ := hedgeq
        simp only [Bool.and_eq_true, beq_iff_eq] at h
        rw [← h.2]
        exact hall e (Array.mem_toList_iff.1 he) h.1
      have honly : ∀ s b0 b1, ks[s]? = some (Kin.put q b0 b1) → s = i := fun s b0 b1 hs => putsM_one hputs hs hkat
      obtain ⟨g, hg, hge, hglt, _, h5⟩ := hB.news q b hqk hql
      have hcur : w.heap[g]? = some b := h5 fun s b0 b1 hs => by rw [honly s b0 b1 hs]; exact h0'
      obtain ⟨hw, w', hr, hbw, hkeep, hnew⟩ := hrun xs w g hB.below hedge hg hge hcur
      rw [if_pos hw]
      refine .inl ?_
      unfold Oper.wp
      rw [hr]
      simp only [Oper.upon]
      refine hnext undef w' ?_
      refine ⟨hB.below.trans hbw, fun j f' hj hl => ?_, fun j b1 hj hl => ?_, fun j j' b1 b1' hj hj' hne hl hl' => ?_, fun s j b0 b1 hs hl => ?_⟩
      · have hji : j ≠ i := fun e => by rw [e, hkat] at hj; cases hj
        rw [if_neg hji]
        rw [hoth j hji] at hl
        have hjl : j < ops.size := by rw [← hkl]; exact (List.getElem?_eq_some_iff.1 hj).1
        exact (hstep j ops[j] _ (Array.getElem?_eq_getElem hjl) hj).1 _ _ _ hbw (hB.vals j f' hj hl)
      · have hji : j ≠ i := fun e => by rw [e, hkat] at hj; cases hj
        rw [if_neg hji]
        rw [hoth j hji] at hl
        obtain ⟨g', h1, h2, h3, h4, h6⟩ := hB.news j b1 hj hl
        by_cases hjq : j = q
        · subst hjq
          have hgg : g' = g := by
            rw [hg] at h1
            simp only [ptrTo, Value.pointer.injEq, Option.some.injEq, Addr.mk.injEq, and_true] at h1
            exact h1.symm
          subst hgg
          refine ⟨g', h1, h2, (Array.getElem?_eq_some_iff.1 hnew).1, fun s b0 b2 hs hls => ?_, fun hno => ?_⟩
          · have := honly s b0 b2 hs
            subst this
            rw [hkat] at hs
            injection hs with hs
            injection hs with _ _ hs
            rw [← hs]
            exact hnew
          · have := hno i b b' hkat
            rw [hself] at this
            cases this
        · have hgg : g' ≠ g := fun e => hB.apart j q b1 b hj hqk hjq hl hql (by rw [h1, hg, e])
          refine ⟨g', h1, h2, Nat.lt_of_lt_of_le h3 hbw.size, fun s b0 b2 hs hls => ?_, fun hno => ?_⟩
          · have hsi : s ≠ i := fun e => by
              rw [e, hkat] at hs
              injection hs with hs
              injection hs with hs
              exact hjq hs.symm
            rw [hoth s hsi] at hls
            rw [hkeep g' hgg]
            exact h4 s b0 b2 hs hls
          · rw [hkeep g' hgg]
            refine h6 fun s b0 b2 hs => ?_
            have hsi : s ≠ i := fun e => by
              rw [e, hkat] at hs
              injection hs with hs
              injection hs with hs
              exact hjq hs.symm
            have := hno s b0 b2 hs
            rwa [hoth s hsi] at this
      · have h1 : j ≠ i := fun e => by rw [e, hkat] at hj; cases hj
        have h2 : j' ≠ i := fun e => by rw [e, hkat] at hj'; cases hj'
        rw [if_neg h1, if_neg h2]
        rw [hoth j h1] at hl
        rw [hoth j' h2] at hl'
        exact hB.apart j j' b1 b1' hj hj' hne hl hl'
      · by_cases hsi : s = i
        · subst hsi
          rw [hkat] at hs
          injection hs with hs
          injection hs with hs
          subst hs
          have hqi : q ≠ s := fun e => by rw [e, hkat] at hqk; cases hqk
          rw [hoth q hqi]
          exact hql
        · rw [hoth s hsi] at hl
          by_cases hji : j = i
          · rw [hji]; exact hself
          · rw [hoth j hji]; exact hB.puts s j b0 b1 hs hl

theorem kinds_of_wpLocM {ops : Array Oper} {w0 : World} {fr : (Nat → Value) → Act} {Q : Act → World → Prop} : ∀ (l : List Oper) (ks : List Kin), wpLocM P ops w0 fr Q l ks →
    ∃ ks' : List Kin, ks'.length = l.length ∧ (∀ j o k, l[j]? = some o → ks'[j]? = some k → stepM P ops w0 fr (ks ++ ks'.take j) o k) ∧ (putsM (ks ++ ks')).Nodup ∧
      (∀ xs w, Below w0.heap.size w0 w → factsM w0.heap.size xs w 0 (ks ++ ks') → Apart (newsM 0 (ks ++ ks')) xs → Q (fr xs) w)
  | [], ks, h => ⟨[], rfl, fun j o k hj => by simp at hj, by simpa [wpLocM] using h.1, by simpa using h.2⟩
  | o :: rest, ks, ⟨k, hs, hr⟩ => by
    obtain ⟨ks', hl, hss, hp, hq⟩ := kinds_of_wpLocM rest _ hr
    refine ⟨k :: ks', by simp [hl], fun j o' k' hj hf => ?_, by simpa using hp, by simpa using hq⟩
    cases j with
    | zero =>
      simp at hj hf
      subst hj hf
      simpa using hs
    | succ j =>
      simp at hj hf
      simpa using hss j o' k' hj hf
def dstsM (n : Nat) (ops : Array Oper) : Bool :=
  ops.toList.all (fun o => match o.dst with | some d => decide (d < n) | none => true) && decide (((ops.toList.map (·.dst)).filter (·.isSome)).Nodup)
/-- The rule: a region that draws its order, its operations written out; it may make new blocks and store into them. -/
theorem wp_region_mem {id : Nat} {Q : Exit → Act → World → Prop} {a0 : Act} {w : World} {ops : Array Oper} (l : List Oper) {fr : (Nat → Value) → Act} (hops : ops = l.toArray) (hm : P.follows .mixedOrders = true)
    (hd : dstsM a0.tmps.size l.toArray = true) (hl : lexOk l.toArray = true) (hfr : ∀ xs, fill 0 l a0 xs = fr xs) (h : wpLocM P l.toArray w fr (Q .normal) l []) : (Code.region id ops true).wp P Q a0 w := by
  subst hops
  obtain ⟨ks, hkl, hstep, hp, hend⟩ := kinds_of_wpLocM l [] h
  simp only [dstsM, Bool.and_eq_true, List.all_eq_true, decide_eq_true_eq] at hd
  refine wp_region_any hm ?_
  have hself : ∃ xs, fill 0 l a0 xs = a0 := by
    refine ⟨fun j => ((l[j]?).bind (·.dst)).elim undef fun d => a0.tmps.getD d undef, ?_⟩
    have : ∀ (l' : List Oper) (k : Nat) (ys : Nat → Value), (∀ o ∈ l', ∀ d, o.dst = some d → d < a0.tmps.size) → (∀ j o, l'[j]? = some o → ys (k + j) = o.dst.elim undef fun d => a0.tmps.getD d undef) → fill k l' a0 ys = a0 := by
      intro l'
      induction l' with
      | nil => intros; rfl
      | cons o l' ih =>
        intro k ys h1 h2
        have hk := h2 0 o rfl
        simp only [fill]
        have hp : a0.put o.dst (ys k) = a0 := by
          cases hod : o.dst with
          | none => rfl
          | some d =>
            have hdl := h1 o (by simp) d hod
            rw [Nat.add_zero] at hk
            rw [hk, hod]
            simp only [Act.put, Option.elim_some]
            have : a0.tmps.setIfInBounds d (a0.tmps.getD d undef) = a0.tmps := by
              apply Array.ext_getElem?
              intro i
              rw [Array.getElem?_setIfInBounds]
              by_cases hi : d = i
              · subst hi
                simp [hdl]
              · rw [if_neg hi]
            rw [this]
        rw [hp]
        exact ih (k + 1) ys (fun o ho => h1 o (by simp [ho])) fun j o hj => by
          have := h2 (j + 1) o (by simpa using hj)
          rwa [show k + (j + 1) = k + 1 + j by omega] at this
    refine this l 0 _ (fun o ho d hod => ?_) fun j o hj => by simp [hj]
    have := hd.1 o (by simpa using ho)
    rw [hod] at this
    simpa using this
  obtain ⟨xs, hxs⟩ := hself
  have hB : Below w.heap.size w { w with drawn := w.drawn + 1 } := ⟨rfl, rfl, rfl, Nat.le_refl _, fun _ _ => rfl⟩
  have hno : ∀ j, j < l.length → (Array.replicate l.toArray.size false).getD j false = false := fun j hj => by simp [hj]
  have := mem_any (P := P) (ops := l.toArray) (w0 := w) (a0 := a0) (Q := Q) (ks := ks) (by simpa using hd.2)
    (fun j o ho e he hb => by
      have h1 := List.all_eq_true.1 hl j (List.mem_range.2 (Array.getElem?_eq_some_iff.1 ho).1)
      rw [ho] at h1
      have h2 := List.all_eq_true.1 h1 e he
      simpa [hb] using h2)
    (by simpa using hkl) (by simpa using hp)
    (fun j o k ho hk => by
      have := hstep j o k (by simpa using ho) hk
      rw [show fill 0 l.toArray.toList a0 = fr from funext fun xs => by rw [← hfr]]
      simpa using this)
    (fun xs w' hb hf ha => by
      have := hend xs w' hb (by simpa using hf) (by simpa using ha)
      rw [← hfr] at this
      exact this)
    l.toArray.size (Array.replicate l.toArray.size false) xs { w with drawn := w.drawn + 1 } (by simp) (by
      rw [List.countP_eq_length.2]
      · simp
      · intro j hj
        have : j < l.length := by simpa using hj
        simp [this])
    (by
      have hlt : ∀ (j : Nat) (k : Kin), ks[j]? = some k → (Array.replicate l.toArray.size false).getD j false = true → False := fun j k hj hl => by
        have := hno j (by rw [← hkl]; exact (List.getElem?_eq_some_iff.1 hj).1)
        rw [this] at hl
        cases hl
      exact ⟨hB, fun j f hj hl => (hlt j _ hj hl).elim, fun j b hj hl => (hlt j _ hj hl).elim, fun i j b b' hi hj hne hl hl' => (hlt i _ hi hl).elim, fun s i b b' hs hl => (hlt s _ hs hl).elim⟩)
  rw [hxs] at this
  exact this
theorem wpLocM_nil {ops : Array Oper} {w0 : World} {fr : (Nat → Value) → Act} {Q : Act → World → Prop} {ks : List Kin} (hp : decide (putsM ks).Nodup = true) (h : ∀ xs w, Below w0.heap.size w0 w → factsM w0.heap.size xs w 0 ks → Apart (newsM 0 ks) xs → Q (fr xs) w) : wpLocM P ops w0 fr Q [] ks := ⟨of_decide_eq_true hp, h⟩
theorem ptrTo_inj {u : Value} {g g' : Nat} (h : u = ptrTo g) (h' : u = ptrTo g') : g' = g := by
  rw [h] at h'
  simp only [ptrTo, Value.pointer.injEq, Option.some.injEq, Addr.mk.injEq, and_true] at h'
  exact h'.symm
theorem wpLocM_det {ops : Array Oper} {w0 : World} {fr : (Nat → Value) → Act} {Q : Act → World → Prop} {ks : List Kin} {o : Oper} {rest : List Oper} (v : Value)
    (h : ∀ xs w, Below w0.heap.size w0 w → edgeM ks xs w o.after.toList → if Region.wanted o (yielded ops (fr xs).tmps) then locRun P o (fr xs) w (.det v) else v = undef) (hr : wpLocM P ops w0 fr Q rest (ks ++ [.val (.det v)])) : wpLocM P ops w0 fr Q (o :: rest) ks :=
  ⟨.val (.det v), ⟨fun _ _ _ _ h => h, fun xs w hb he => by have := h xs w hb he; split at this <;> simp_all [Fact.at_]⟩, hr⟩
theorem wpLocM_new {ops : Array Oper} {w0 : World} {fr : (Nat → Value) → Act} {Q : Act → World → Prop} {ks : List Kin} {o : Oper} {rest : List Oper} (b : Obj)
    (h : ∀ xs w, Below w0.heap.size w0 w → edgeM ks xs w o.after.toList → Region.wanted o (yielded ops (fr xs).tmps) = true ∧ (execOp (fr xs).eval o).run P w = .ok (.value (.pointer (some ⟨w.heap.size, 0, none⟩))) (w.alloc b))
    (hr : wpLocM P ops w0 fr Q rest (ks ++ [.new b])) : wpLocM P ops w0 fr Q (o :: rest) ks := ⟨.new b, h, hr⟩
theorem wpLocM_put {ops : Array Oper} {w0 : World} {fr : (Nat → Value) → Act} {Q : Act → World → Prop} {ks : List Kin} {o : Oper} {rest : List Oper} (i : Nat) (b b' : Obj) (hi : ks[i]? = some (.new b)) (he : (o.after.toList.any fun e => Region.binds .any e && (e.on == i)) = true) (hd : o.dst = none)
    (h : ∀ xs w g, Below w0.heap.size w0 w → edgeM ks xs w o.after.toList → xs i = .pointer (some ⟨g, 0, none⟩) → w0.heap.size ≤ g → w.heap[g]? = some b →
        Region.wanted o (yielded ops (fr xs).tmps) = true ∧ ∃ w', (execOp (fr xs).eval o).run P w = .ok .skip w' ∧ Below w0.heap.size w w' ∧ (∀ k, k ≠ g → w'.heap[k]? = w.heap[k]?) ∧ w'.heap[g]? = some b')
    (hr : wpLocM P ops w0 fr Q rest (ks ++ [.put i b b'])) : wpLocM P ops w0 fr Q (o :: rest) ks := ⟨.put i b b', ⟨hi, he, hd, h⟩, hr⟩
theorem edgeM_get {ks : List Kin} {xs : Nat → Value} {w : World} : ∀ {es : List Edge}, edgeM ks xs w es → ∀ e ∈ es, Region.binds .any e = true → ∀ f : Fact, ks[e.on]? = some (Kin.val f) → f.at_ (xs e.on) w
  | [], _, e, he, _, _, _ => by cases he
  | e0 :: es, h, e, he, hb, f, hf => by
    rcases List.mem_cons.1 he with rfl | he
    · have := h.1
      rw [hb, hf] at this
      exact this
    · exact edgeM_get h.2 e he hb f hf
/-- A store of a value that has come up into a block that has been made. -/
theorem wpLocM_store {ops : Array Oper} {w0 : World} {fr : (Nat → Value) → Act} {Q : Act → World → Prop} {ks : List Kin} {o : Oper} {rest : List Oper} (i j : Nat) (b b' : Obj) (v : Value) (hi : ks[i]? = some (.new b)) (hj : ks[j]? = some (.val (.det v)))
    (he : (o.after.toList.any fun e => Region.binds .any e && (e.on == i)) = true) (hej : (o.after.toList.any fun e => Region.binds .any e && (e.on == j)) = true) (hd : o.dst = none) (hg : o.guard = none)
    (h : ∀ xs w g, xs i = .pointer (some ⟨g, 0, none⟩) → xs j = v → w0.heap.size ≤ g → w.heap[g]? = some b →
        ∃ w', (execOp (fr xs).eval o).run P w = .ok .skip w' ∧ Below w0.heap.size w w' ∧ (∀ k, k ≠ g → w'.heap[k]? = w.heap[k]?) ∧ w'.heap[g]? = some b')
    (hr : wpLocM P ops w0 fr Q rest (ks ++ [.put i b b'])) : wpLocM P ops w0 fr Q (o :: rest) ks :=
  wpLocM_put i b b' hi he hd (fun xs w g hb hedge hp hge hcur => by
    refine ⟨by unfold Region.wanted; rw [hg], h xs w g hp ?_ hge hcur⟩
    rw [List.any_eq_true] at hej
    obtain ⟨e, hm, hx⟩ := hej
    simp only [Bool.and_eq_true, beq_iff_eq] at hx
    have := edgeM_get hedge e hm hx.1 (.det v) (by rw [hx.2]; exact hj)
    rw [hx.2] at this
    exact this) hr
end
end Go.Proofs.YtgabpbnndikheaaDoor
