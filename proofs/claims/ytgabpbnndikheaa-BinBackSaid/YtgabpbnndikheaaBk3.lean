import Derived.Test.YtgabpbnndikheaaBk2
import Derived.Deep.Slices
import Derived.ChangeArms
import Derived.Below
import Derived.Test.YtgabpbnndikheaaProg
import Derived.WalkKit
import Derived.Lib.LazyBuf
import Derived.Lib.Walk
import Derived.Lib.SliceRun
import Derived.OwnWalk
import Derived.Deep.LoopGhost
import Derived.RowKit
namespace Go.Proofs.Ytgabpbnndikheaa.I
open Go.RowKit
set_option linter.unusedVariables false

/-- Is a type (or: are these fields, from a place on) told by a kind? -/
def kindR (P : Program) : Kd → (TypeId ⊕ (List Field × Nat)) → Bool
  | .int k, .inl t => match P.underlying t with
    | some (.int k') => decide (k' = k)
    | _ => false
  | .bool, .inl t => match P.underlying t with
    | some .bool => true
    | _ => false
  | .str, .inl t => match P.underlying t with
    | some .string => true
    | _ => false
  | .slice e, .inl t => match P.underlying t with
    | some (.slice u) => Nat.beq (P.cellsOf u) e.wd && (Nat.ble 1 e.wd && kindR P e (.inl u))
    | _ => false
  | .unit, .inr (fs, _) => match fs with
    | [] => true
    | _ => false
  | .pair a b, .inr (fs, off) => match fs with
    | f :: fs => Nat.beq f.offset off && (Nat.beq (P.cellsOf f.type) a.wd && (kindR P a (.inl f.type) && kindR P b (.inr (fs, off + a.wd))))
    | [] => false
  | .pair a b, .inl t => match P.underlying t with
    | some (.struct fs) => Nat.beq (P.cellsOf t) (a.wd + b.wd) && (match fs.toList with
      | f :: fs => Nat.beq f.offset 0 && (Nat.beq (P.cellsOf f.type) a.wd && (kindR P a (.inl f.type) && kindR P b (.inr (fs, 0 + a.wd))))
      | [] => false)
    | _ => false
  | .tree p, .inl t => match P.underlying t with
    | some (.struct fs) => match fs.toList.getLast? with
      | some f => (match P.underlying f.type with
          | some (.slice u) => Nat.beq u t
          | _ => false) && (Nat.beq f.offset p.wd && (Nat.beq (P.cellsOf f.type) 1 && (Nat.beq (P.cellsOf t) (p.wd + 1) && kindR P p (.inr (fs.toList.dropLast, 0)))))
      | none => false
    | _ => false
  | _, _ => false
/-- What the machine's memory bounds. -/
def small : (k : Kd) → k.T → Prop
  | .int k, n => (Lit.int k n).wf = true
  | .str, s => s.size ≤ maxLen
  | .slice e, xs => xs.length ≤ maxLen ∧ ∀ x ∈ xs, small e x
  | .pair a b, x => small a x.1 ∧ small b x.2
  | _, _ => True
/-- How many values and letters a datum holds. -/
def bulkK : (k : Kd) → k.T → Nat
  | .int _, _ => 1
  | .bool, _ => 1
  | .str, s => ByteArray.size s + 1
  | .slice e, xs => (List.map (bulkK e) xs).sum + 1
  | .pair a b, x => bulkK a x.1 + bulkK b x.2
  | .tree p, t => bulkT (bulkK p) t
  | _, _ => 0
where
  bulkT {α : Type} (f : α → Nat) : Tree α → Nat
    | .node v ks => f v + bulkTs f ks + 1
  bulkTs {α : Type} (f : α → Nat) : List (Tree α) → Nat
    | [] => 0
    | t :: ts => bulkT f t + bulkTs f ts
mutual
def dB {H : Type} : DataW H → Nat
  | .lit (.string b) => b.length + 1
  | .lit _ => 1
  | .slice es _ => dBs es + 1
  | .agg es => dBs es
  | .nil => 1
  | _ => 0
def dBs {H : Type} : List (DataW H) → Nat
  | [] => 0
  | d :: ds => dB d + dBs ds
end
theorem bulkTs_eq {α : Type} (f : α → Nat) : ∀ (ks : List (Tree α)), bulkK.bulkTs f ks = (ks.map (bulkK.bulkT f)).sum
  | [] => rfl
  | t :: ts => by simp only [bulkK.bulkTs, List.map_cons, List.sum_cons, bulkTs_eq f ts]
theorem dBs_sum {H : Type} : ∀ (ds : List (DataW H)), dBs ds = (ds.map dB).sum
  | [] => rfl
  | d :: ds => by simp only [dBs, List.map_cons, List.sum_cons, dBs_sum ds]
theorem sum_le_at {α β : Type} (f : α → Nat) (g : β → Nat) : ∀ (xs : List α) (ys : List β), xs.length = ys.length → (∀ (i : Nat) x y, xs[i]? = some x → ys[i]? = some y → f x ≤ g y) → (xs.map f).sum ≤ (ys.map g).sum
  | [], [], _, _ => Nat.le_refl _
  | x :: xs, y :: ys, h, k => by
    have h1 := k 0 x y rfl rfl
    have h2 := sum_le_at f g xs ys (by simpa using h) (fun i a b ha hb => k (i + 1) a b (by simpa using ha) (by simpa using hb))
    simp only [List.map_cons, List.sum_cons]
    omega
  | [], _ :: _, h, _ => by simp at h
  | _ :: _, [], h, _ => by simp at h
section
variable {P : Program} {H : Type} {enc : TypeId × Value → H} {w : World} {base : Nat} {spare : Nat → Bool} {held : Bool} {M : Nat → Prop}
theorem reps_of {α : Type} {R : α → List Value → Prop} {n : Nat} : ∀ {xs : List α} {vs : List Value}, (∀ (i : Nat) x, xs[i]? = some x → R x ((vs.drop (i * n)).take n)) → reps R xs vs
  | [], _, _ => trivial
  | x :: xs, vs, h => by
    refine ⟨vs.take n, vs.drop n, (List.take_append_drop n vs).symm, by simpa using h 0 x rfl, reps_of (n := n) (fun i y hy => ?_)⟩
    have := h (i + 1) y (by simpa using hy)
    rwa [List.drop_drop, show n + i * n = (i + 1) * n by rw [Nat.succ_mul, Nat.add_comm]]
theorem slice_of_trod {e : Kd} {t u : TypeId} {m : Nat} {cs : List Value} {y : DataW H × List MemPlace} (hM : ∀ b, ¬ M b) (ht : P.underlying t = some (.slice u)) (hc : P.cellsOf u = e.wd) (h1 : 1 ≤ e.wd)
    (hE : ∀ n, n < m → ∀ cs y, DataW.trod enc P w base spare held n u cs = some y → ∃ x : e.T, rep w M e x cs ∧ small e x ∧ bulkK e x ≤ dB y.1) (h : DataW.trod enc P w base spare held m t cs = some y) :
    ∃ (xs : List e.T) (v : Value), cs = [v] ∧ sliceRep w M (rep w M e) xs v ∧ xs.length ≤ maxLen ∧ (∀ x ∈ xs, small e x) ∧ (xs.map (bulkK e)).sum + 1 ≤ dB y.1 := by
  rcases DataW.trod_slice ht h with ⟨rfl, rfl⟩ | ⟨a, len, cap, elems, rest, n, rfl, rfl, rfl, _, hl, hm, hlen, hx, _, _⟩
  · exact ⟨[], _, rfl, ⟨none, 0, rfl, Nat.le_refl _, fun h => absurd rfl h⟩, by simp, (fun x hx => by cases hx), by simp [dB]⟩
  · have key : ∀ i, i < len → ∃ (x : e.T) (cs' : List Value), rep w M e x cs' ∧ (small e x ∧ ∀ z, elems[i]? = some z → bulkK e x ≤ dB z.1) ∧ cs'.length = e.wd ∧ ∀ j, j < e.wd → w.cell? ((a.add (i * e.wd)).add j) = cs'[j]? := by
      intro i hi
      have h2 := hx i hi
      have hei : elems[i]? = some elems[i] := List.getElem?_eq_getElem (by omega)
      rw [hei] at h2
      obtain ⟨cs', h3, h4⟩ := Option.bind_eq_some_iff.1 h2
      obtain ⟨x, h5, h6, h6b⟩ := hE n (Nat.lt_succ_self n) _ _ h4
      rw [hc] at h3
      obtain ⟨-, h7, h8⟩ := World.cells?_some h3
      exact ⟨x, cs', h5, ⟨h6, fun z hz => by rw [hei] at hz; injection hz with hz; subst hz; exact h6b⟩, h7, h8⟩
    have key2 : ∀ n, n ≤ len → ∃ xs : List e.T, xs.length = n ∧ ∀ (i : Nat) (x : e.T), xs[i]? = some x → ∃ cs', rep w M e x cs' ∧ (small e x ∧ ∀ z, elems[i]? = some z → bulkK e x ≤ dB z.1) ∧ cs'.length = e.wd ∧ ∀ j, j < e.wd → w.cell? ((a.add (i * e.wd)).add j) = cs'[j]? := by
      intro n
      induction n with
      | zero => intro _; exact ⟨[], rfl, fun i x hx => by simp at hx⟩
      | succ n ih =>
        intro hn
        obtain ⟨xs, h2, h3⟩ := ih (by omega)
        obtain ⟨x, cs', h4⟩ := key n (by omega)
        refine ⟨xs ++ [x], by simp [h2], fun i z hz => ?_⟩
        rw [List.getElem?_append] at hz
        split at hz
        · exact h3 i z hz
        · rename_i hi
          have : i = n := by
            have := (List.getElem?_eq_some_iff.1 hz).1
            simp at this; omega
          subst this
          rw [h2] at hz
          simp at hz
          subst hz
          exact ⟨cs', h4⟩
    obtain ⟨xs, hxl, hxs⟩ := key2 len (Nat.le_refl _)
    refine ⟨xs, _, rfl, ⟨some a, cap, by rw [hxl], by omega, fun hne => ⟨a, rfl, ?_⟩⟩, by omega, fun x hx => ?_, ?_⟩
    · obtain ⟨x0, hx0⟩ : ∃ x, xs[0]? = some x := by
        cases xs with
        | nil => exact absurd rfl hne
        | cons x xs => exact ⟨x, rfl⟩
      obtain ⟨cs0, _, _, hl0, hc0⟩ := hxs 0 x0 hx0
      have hcell := hc0 0 (by omega)
      rw [List.getElem?_eq_getElem (by omega)] at hcell
      rw [show (a.add (0 * e.wd)).add 0 = a by simp [Addr.add]] at hcell
      unfold World.cell? at hcell
      split at hcell
      · rename_i c tt fr hb
        split at hcell
        · cases hcell
        · rename_i hsp
          have hsp : a.spot = none := by simpa using hsp
          refine ⟨hsp, hM _, c, tt, fr, hb, reps_of (n := e.wd) (fun i x hx => ?_)⟩
          obtain ⟨cs', k1, _, k2, k3⟩ := hxs i x hx
          have : ((c.toList.drop a.off).drop (i * e.wd)).take e.wd = cs' := by
            apply List.ext_getElem?
            intro j
            rw [List.getElem?_take]
            split
            · rename_i hj
              rw [← k3 j hj, List.drop_drop, List.getElem?_drop]
              obtain ⟨ab, ao, asp⟩ := a
              simp only at hsp hb
              subst hsp
              rw [Addr.add_lit, Addr.add_lit, cell_blk hb]
              simp
            · rename_i hj
              rw [List.getElem?_eq_none (by omega)]
          rw [this]
          exact k1
      · cases hcell
    · obtain ⟨i, hi⟩ := List.mem_iff_getElem?.1 hx
      obtain ⟨_, _, h2, _⟩ := hxs i x hi
      exact h2.1
    · simp only [dB, dBs_sum, List.map_map]
      refine Nat.succ_le_succ (sum_le_at (bulkK e) _ xs elems (by omega) (fun i x z h1 h2 => ?_))
      obtain ⟨_, _, h3, _⟩ := hxs i x h1
      exact h3.2 z h2
theorem fields_of_trod {m : Nat} (hA : ∀ (k : Kd) (t : TypeId) (cs : List Value) (y : DataW H × List MemPlace), kindR P k (.inl t) = true → DataW.trod enc P w base spare held m t cs = some y → ∃ x : k.T, rep w M k x cs ∧ small k x ∧ bulkK k x ≤ dB y.1) :
    ∀ (k : Kd) (fs : List Field) (ys : List (DataW H × List MemPlace)) (off : Nat) (cs : List Value), kindR P k (.inr (fs, off)) = true → (∀ (i : Nat) f, fs[i]? = some f → ∃ y, ys[i]? = some y ∧ DataW.trod enc P w base spare held m f.type ((cs.drop f.offset).take (P.cellsOf f.type)) = some y) → ∃ x : k.T, rep w M k x ((cs.drop off).take k.wd) ∧ small k x ∧ bulkK k x ≤ (ys.map (fun y => dB y.1)).sum
  | .unit, fs, ys, off, cs, _, _ => ⟨(), by simp [rep, Kd.wd], trivial, Nat.zero_le _⟩
  | .pair a b, fs, ys, off, cs, h, hf => by
    simp only [kindR] at h
    split at h
    · rename_i f fs
      simp only [Bool.and_eq_true] at h
      obtain ⟨h1, h2, h3, h4⟩ := h
      have h1 := Nat.eq_of_beq_eq_true h1
      have h2 := Nat.eq_of_beq_eq_true h2
      obtain ⟨y, hy0, hy⟩ := hf 0 f rfl
      rw [h1, h2] at hy
      obtain ⟨y', ys, rfl⟩ : ∃ y' ys', ys = y' :: ys' := by
        cases ys with
        | nil => cases hy0
        | cons y' ys => exact ⟨_, _, rfl⟩
      injection hy0 with hy0
      subst hy0
      obtain ⟨x, g1, g2, g5⟩ := hA a f.type _ _ h3 hy
      obtain ⟨z, g3, g4, g6⟩ := fields_of_trod hA b fs ys (off + a.wd) cs h4 (fun i f hm => by simpa using hf (i + 1) f (by simpa using hm))
      refine ⟨(x, z), ⟨_, _, ?_, g1, g3⟩, ⟨g2, g4⟩, ?_⟩
      · rw [Kd.wd, ← List.drop_drop, List.take_add]
      · show bulkK a x + bulkK b z ≤ _
        simp only [List.map_cons, List.sum_cons]
        omega
    · cases h
  | .int _, _, _, _, _, h, _ | .bool, _, _, _, _, h, _ | .str, _, _, _, _, h, _ | .slice _, _, _, _, _, h, _ | .tree _, _, _, _, _, h, _ | .fn _, _, _, _, _, h, _ | .fb _, _, _, _, _, h, _ | .err, _, _, _, _, h, _ => by simp [kindR] at h
theorem rep_of_trod (hM : ∀ b, ¬ M b) (m : Nat) : ∀ (k : Kd) (t : TypeId) (cs : List Value) (y : DataW H × List MemPlace), kindR P k (.inl t) = true → DataW.trod enc P w base spare held m t cs = some y → ∃ x : k.T, rep w M k x cs ∧ small k x ∧ bulkK k x ≤ dB y.1 := by
  induction m using Nat.strongRecOn with
  | _ m ih =>
    intro k t cs y hk h
    cases k with
    | int k =>
      simp only [kindR] at hk
      split at hk
      · rename_i k' hu
        have hk : k' = k := by simpa using hk
        subst hk
        obtain ⟨n, rfl, rfl, hw⟩ := DataW.trod_int hu h
        exact ⟨n, rfl, hw, by simp [bulkK, dB]⟩
      · cases hk
    | bool =>
      simp only [kindR] at hk
      split at hk
      · rename_i hu
        obtain ⟨n, rfl, rfl⟩ := DataW.trod_bool hu h
        exact ⟨n, rfl, trivial, by simp [bulkK, dB]⟩
      · cases hk
    | str =>
      simp only [kindR] at hk
      split at hk
      · rename_i hu
        obtain ⟨n, rfl, rfl, hs⟩ := DataW.trod_string hu h
        exact ⟨n, rfl, hs, by simp only [bulkK, dB, Array.length_toList]; exact Nat.le_refl _⟩
      · cases hk
    | slice e =>
      simp only [kindR] at hk
      split at hk
      · rename_i u hu
        simp only [Bool.and_eq_true] at hk
        obtain ⟨h1, h2, h3⟩ := hk
        obtain ⟨xs, v, rfl, g1, g2, g3, g4⟩ := slice_of_trod (e := e) hM hu (Nat.eq_of_beq_eq_true h1) (Nat.le_of_ble_eq_true h2) (fun n hn cs y hy => ih n hn e u cs y h3 hy) h
        exact ⟨xs, ⟨v, rfl, g1⟩, ⟨g2, g3⟩, g4⟩
      · cases hk
    | pair a b =>
      simp only [kindR] at hk
      split at hk
      · rename_i fs hu
        simp only [Bool.and_eq_true] at hk
        obtain ⟨h0, hk⟩ := hk
        have h0 := Nat.eq_of_beq_eq_true h0
        have hk2 : kindR P (.pair a b) (.inr (fs.toList, 0)) = true := by
          simp only [kindR]
          split at hk
          · rename_i f r hfs
            exact hk
          · cases hk
        obtain ⟨xs, n, rfl, rfl, hl, hxl, hf⟩ := DataW.trod_struct hu h
        obtain ⟨x, g1, g2, g3⟩ := fields_of_trod (fun k t cs y => ih n (Nat.lt_succ_self n) k t cs y) (.pair a b) fs.toList xs 0 cs hk2 (fun i f hi => by
          have h1 := hf i f (by simpa using hi)
          have hlt := (List.getElem?_eq_some_iff.1 hi).1
          rw [List.getElem?_eq_getElem (by simp at hlt; omega)] at h1
          exact ⟨_, List.getElem?_eq_getElem (by simp at hlt; omega), h1⟩)
        refine ⟨x, ?_, g2, by simp only [dB, dBs_sum, List.map_map]; exact g3⟩
        rw [List.drop_zero, List.take_of_length_le (by rw [hl, h0]; exact Nat.le_refl _)] at g1
        exact g1
      · cases hk
    | tree p =>
      simp only [kindR] at hk
      split at hk
      · rename_i fs hu
        split at hk
        · rename_i f hlast
          simp only [Bool.and_eq_true] at hk
          obtain ⟨h1, h2, h3, h4, h5⟩ := hk
          have h2 := Nat.eq_of_beq_eq_true h2
          have h3 := Nat.eq_of_beq_eq_true h3
          have h4 := Nat.eq_of_beq_eq_true h4
          split at h1
          · rename_i u hfu
            have h1 := Nat.eq_of_beq_eq_true h1
            subst h1
            obtain ⟨xs, n, rfl, rfl, hl, hxl, hf⟩ := DataW.trod_struct hu h
            have hall : ∀ (i : Nat) g, fs.toList[i]? = some g → ∃ y, xs[i]? = some y ∧ DataW.trod enc P w base spare held n g.type ((cs.drop g.offset).take (P.cellsOf g.type)) = some y := fun i g hi => by
              have h1 := hf i g (by simpa using hi)
              have hlt := (List.getElem?_eq_some_iff.1 hi).1
              rw [List.getElem?_eq_getElem (by simp at hlt; omega)] at h1
              exact ⟨_, List.getElem?_eq_getElem (by simp at hlt; omega), h1⟩
            obtain ⟨ys, yl, rfl⟩ : ∃ ys yl, xs = ys ++ [yl] := by
              have hne : xs ≠ [] := fun he => by
                subst he
                have : fs.toList = [] := List.eq_nil_of_length_eq_zero (by simpa using hxl.symm)
                rw [this] at hlast
                cases hlast
              exact ⟨xs.dropLast, xs.getLast hne, (List.dropLast_concat_getLast hne).symm⟩
            have hlen : ys.length = fs.toList.dropLast.length := by
              rw [List.length_append] at hxl
              have e0 : fs.toList.length = fs.size := Array.length_toList
              simp only [List.length_cons, List.length_nil] at hxl
              rw [List.length_dropLast, e0]
              omega
            obtain ⟨x, g1, g2, g3⟩ := fields_of_trod (fun k t cs y => ih n (Nat.lt_succ_self n) k t cs y) p fs.toList.dropLast ys 0 cs h5 (fun i g hg => by
              have hlt := (List.getElem?_eq_some_iff.1 hg).1
              rw [List.getElem?_dropLast] at hg
              split at hg
              · obtain ⟨y, q1, q2⟩ := hall i g hg
                rw [List.getElem?_append_left (by omega)] at q1
                exact ⟨y, q1, q2⟩
              · cases hg)
            have hlast2 : fs.toList[ys.length]? = some f := by
              rw [List.getLast?_eq_getElem?] at hlast
              rw [hlen, List.length_dropLast]
              exact hlast
            obtain ⟨y', hy0, hy'⟩ := hall _ f hlast2
            simp only [List.getElem?_concat_length, Option.some.injEq] at hy0
            subst hy0
            rw [h2, h3] at hy'
            obtain ⟨ks, v, hv, k1, k2, k3, k4⟩ := slice_of_trod (e := .tree p) hM hfu (by rw [h4]; rfl) (by simp [Kd.wd]) (fun n' hn' cs y hy => ih n' (Nat.lt_succ_of_lt hn') (.tree p) u cs y (by
              simp only [kindR]
              rw [hu]
              simp only [hlast, hfu, Bool.and_eq_true]
              exact ⟨Nat.beq_refl u, by rw [h2]; exact Nat.beq_refl _, by rw [h3]; rfl, by rw [h4]; exact Nat.beq_refl _, h5⟩) hy) hy'
            refine ⟨.node x ks, rep_tree.2 ⟨(cs.drop 0).take p.wd, v, ?_, g1, k1⟩, trivial, ?_⟩
            rotate_left
            · simp only [bulkK, bulkK.bulkT, bulkTs_eq, dB, dBs_sum, List.map_append, List.map_map, List.sum_append, List.map_cons, List.map_nil, List.sum_cons, List.sum_nil] at g3 k4 ⊢
              have k5 : (ks.map (bulkK.bulkT (bulkK p))).sum + 1 ≤ dB yl.1 := k4
              have g5 : bulkK p x ≤ (ys.map (dB ∘ fun x => x.fst)).sum := g3
              omega
            rw [← hv, List.drop_zero]
            have : cs.length = p.wd + 1 := by rw [hl, h4]
            rw [List.take_of_length_le (i := 1) (by rw [List.length_drop]; omega), List.take_append_drop]
          · cases h1
        · cases hk
      · cases hk
    | _ => simp [kindR] at hk
end
end Go.Proofs.Ytgabpbnndikheaa.I

namespace Go.Proofs.Ytgabpbnndikheaa.I
open Go.RowKit
set_option linter.unusedVariables false
def plainT : Option TypeDesc → Bool
  | some (.int _) | some .bool | some .string | some (.slice _) => true
  | _ => false
section
variable {P : Program} {H : Type} {enc : TypeId × Value → H} {W : World} {base : Nat} {spare : Nat → Bool} {held : Bool} {r : Reach} {N : Nat} {G : World → Prop}
theorem one_of_okWide {t : TypeId} {v : Value} (hp : plainT (P.underlying t) = true) (h : Value.okWide P W r base t v) : v.oneCell' = true := by
  unfold Value.okWide Cell.okWide Cell.ok at h
  cases hu : P.underlying t with
  | none => rw [hu] at hp; cases hp
  | some d =>
    rw [hu] at h hp
    cases d <;> first | (cases hp; done) | (cases v <;> first | rfl | exact h.elim | (simp at h; done))
theorem agg_of_okWide {t : TypeId} {v : Value} (hp : aggOf P t = true) (h : Value.okWide P W r base t v) : ∃ a, v = .agg a := by
  unfold aggOf at hp
  unfold Value.okWide at h
  split at hp
  · rename_i hu
    rw [hu] at h
    obtain ⟨cs, h, _⟩ := h
    exact ⟨cs, h⟩
  · rename_i hu
    rw [hu] at h
    obtain ⟨cs, h, _⟩ := h
    exact ⟨cs, h⟩
  · cases hp
theorem kindR_plain {k : Kd} {t : TypeId} (h : kindR P k (.inl t) = true) : (k.isAgg = true → aggOf P t = true) ∧ (k.isAgg = false → plainT (P.underlying t) = true) := by
  cases k <;> simp only [kindR] at h <;> first
    | (cases h; done)
    | (split at h <;> first
        | (rename_i hu; exact ⟨fun h => (by cases h), fun _ => by rw [hu]; rfl⟩)
        | (rename_i hu; exact ⟨fun _ => by unfold aggOf; rw [hu], fun h => (by cases h)⟩)
        | (cases h; done))
theorem arg_of {k : Kd} {t : TypeId} {v : Value} {d : DataW H} {p : List MemPlace} {b0 : Nat} (hk : kindR P k (.inl t) = true) (hv : Value.okWide P W r b0 t v) (h : DataW.Trod enc P W base spare held t v d p) :
    ∃ x : k.T, repV [] (fun _ => none) W (fun _ => False) (k.val x) v ∧ small k x := by
  obtain ⟨m, h⟩ := h
  obtain ⟨x, h1, h2, _⟩ := rep_of_trod (M := fun _ => False) (fun _ h => h) m k t _ _ hk h
  obtain ⟨g1, g2⟩ := kindR_plain hk
  exact ⟨x, val_rep h1 (fun ha => agg_of_okWide (g1 ha) hv) (fun ha => one_of_okWide (g2 ha) hv), h2⟩
theorem below_of_chg {w w' : World} (h : Chg (fun _ => False) w w') : Below w.heap.size w w' :=
  ⟨h.os, h.tape, h.output, h.size, fun k hk => h.same k hk (fun h => h)⟩
theorem chg_of_below {w w' : World} (h : Below w.heap.size w w') : Chg (fun _ => False) w w' :=
  ⟨h.os, h.tape, h.output, h.size, fun k hk _ => h.block k hk, fun b c t fr hb => ⟨c, t, fr, by rw [h.block b (heap_lt hb)]; exact hb, rfl⟩⟩
theorem law_calls {g : FuncId} {ps : List Kd} {raw : (kdP ps).T → Option (kdP [.bool]).T} (hp : PureOk P N G g ps [.bool] raw) (hG : G W) (hN : N ≤ W.heap.size) {x : (kdP ps).T} (hraw : raw x = some (true, ())) {vals : List Value} (hr : repVs [] (fun _ => none) W (fun _ => False) (argsA ps x) vals) :
    Calls P g vals.toArray W fun e w' => e = .returned (.bool true) ∧ Below W.heap.size W w' := by
  refine (hp.calls (fun _ => False) W x (true, ()) vals (fun b h => h.elim) hG hN hr hraw).mono ?_
  rintro e w' ⟨u, rfl, h1, h2⟩
  have h2 : repV [] (fun _ => none) w' (fun _ => False) (.bool true) u := h2
  simp only [repV] at h2
  subst h2
  exact ⟨rfl, below_of_chg h1⟩
end
end Go.Proofs.Ytgabpbnndikheaa.I

namespace Go.Proofs.Ytgabpbnndikheaa.I
open Go.RowKit
set_option linter.unusedVariables false
/-- A new row under a new label: in a new block, or none at all. -/
theorem post_fresh {X : Nat → Prop} {h : Hp} {φ : Lab} {w w' : World} (hs : Sat X h φ w) {f : Nat} (hf : h.get f = none) {e : Kd} {ys : List e.T} {v : Value} {t : TypeId} {news : List Value} (hb : Below w.heap.size w w')
    (ho : w'.ownsRow w.heap.size t e.wd v ys.length news) (hr : reps (rep w (MB X h φ) e) ys news) (hfb : rowT e t = true) :
    ∃ φ', Post X h φ w ((f, .arr e ys true) :: h) φ' w' ∧ repV ((f, .arr e ys true) :: h) φ' w' (MB X ((f, .arr e ys true) :: h) φ') (.own f) v := by
  have hlt : ∀ l B b, h.get l = some B → B.mutl = true → φ l = some b → b < w.heap.size := fun l B b h1 h2 h3 => own_lt hs ⟨l, B, h1, h2, h3⟩
  have hchg : Chg (fun _ => False) w w' := chg_of_below hb
  have hold : ∀ b, b < w.heap.size → w'.heap[b]? = w.heap[b]? := fun b hlt => hb.block b hlt
  obtain ⟨hl, ho⟩ := ho
  rcases ho with ⟨rfl, h0⟩ | ⟨g, cap, cur, rfl, hg, hcell, hn, hcap, hsz, htk⟩
  · have hy : ys = [] := List.eq_nil_of_length_eq_zero h0
    subst hy
    have hφ := hs.non f hf
    refine ⟨φ, ?_, ?_⟩
    · refine post_of hs (fun _ _ => rfl) (fun l B' hl => ⟨B', ?_, Later.refl _⟩) (hchg.mono (fun _ hf => hf.elim)) ?_ ?_ ?_ ?_ ?_
      · rw [Hp.get_cons, if_neg (fun e => by subst e; rw [hf] at hl; cases hl)]; exact hl
      · rintro b ⟨l, B', h1, h2, h3⟩
        rw [Hp.get_cons] at h1
        by_cases e : f = l
        · subst e; rw [hφ] at h3; cases h3
        · rw [if_neg e] at h1; exact .inl ⟨l, B', h1, h2, h3⟩
      · intro hu l B' hl
        rw [Hp.get_cons] at hl
        by_cases e : f = l
        · subst e; rw [if_pos rfl] at hl; injection hl with hl; subst hl
          exact .inr (.inl ⟨hφ, rfl⟩)
        · rw [if_neg e] at hl
          rcases blk_lt hs hl with rfl | hbl
          · exact .inr trivial
          · exact .inl ⟨hl, fun b hb => hold b (hbl b hb)⟩
      · intro l l' B1 B2 b h1 h2 m1 m2 e1 e2
        rw [Hp.get_cons] at h1 h2
        by_cases p : f = l
        · subst p; rw [hφ] at e1; cases e1
        · by_cases q : f = l'
          · subst q; rw [hφ] at e2; cases e2
          · rw [if_neg p] at h1; rw [if_neg q] at h2
            exact hs.inj _ _ _ _ _ h1 h2 m1 m2 e1 e2
      · intro l e xs b hl hb
        rw [Hp.get_cons] at hl
        by_cases p : f = l
        · rw [if_pos p] at hl; injection hl with hl; cases hl
        · rw [if_neg p] at hl; exact .inl hl
      · intro l hl
        rw [Hp.get_cons] at hl
        by_cases p : f = l
        · rw [if_pos p] at hl; cases hl
        · rw [if_neg p] at hl; exact hs.non l hl
    · simp only [repV]
      refine ⟨none, 0, 0, rfl, by rw [Hp.get_cons, if_pos rfl]; simp, fun e' xs o hB => ?_⟩
      rw [Hp.get_cons, if_pos rfl] at hB
      injection hB with hB
      injection hB with q1 q2 q3
      subst q1
      have q2 := eq_of_heq q2
      subst q2
      exact ⟨rfl, Nat.le_refl _, by rw [hφ]; rfl, fun _ => rfl, fun b hb => by rw [hφ] at hb; cases hb⟩
  · refine ⟨φ.set f g, ?_, ?_⟩
    · refine post_of hs (fun l hl => Lab.set_ne (fun e => hl (e ▸ hf))) (fun l B' hl => ⟨B', ?_, Later.refl _⟩) (hchg.mono (fun _ hf => hf.elim)) ?_ ?_ ?_ ?_ ?_
      · rw [Hp.get_cons, if_neg (fun e => by subst e; rw [hf] at hl; cases hl)]; exact hl
      · rintro b ⟨l, B', h1, h2, h3⟩
        rw [Hp.get_cons] at h1
        by_cases e : f = l
        · subst e; rw [Lab.set_eq] at h3; injection h3 with h3; exact .inr (by omega)
        · rw [if_neg e] at h1; rw [Lab.set_ne (Ne.symm e)] at h3; exact .inl ⟨l, B', h1, h2, h3⟩
      · intro hu l B' hl
        rw [Hp.get_cons] at hl
        by_cases e : f = l
        · subst e; rw [if_pos rfl] at hl; injection hl with hl; subst hl
          refine .inr (.inr ⟨g, cur, t, (0, 0), Lab.set_eq _ _ _, hcell, frRow_new hfb, ?_⟩)
          have hpre : news <+: cur.toList := ⟨cur.toList.drop (ys.length * e.wd), by rw [← htk]; exact List.take_append_drop _ _⟩
          exact reps_prefix (fun x u hh => rep_len hh) (reps_imp (fun x _ u gg => rep_keeps hu.keeps gg) hr) ((List.take_prefix _ _).trans hpre)
        · rw [if_neg e] at hl
          rcases blk_lt hs hl with rfl | hbl
          · exact .inr trivial
          · exact .inl ⟨hl, fun b hb => hold b (hbl b hb)⟩
      · intro l l' B1 B2 b h1 h2 m1 m2 e1 e2
        rw [Hp.get_cons] at h1 h2
        by_cases p : f = l <;> by_cases q : f = l'
        · exact p.symm.trans q
        · subst p; rw [if_neg q] at h2; rw [Lab.set_ne (Ne.symm q)] at e2; rw [Lab.set_eq] at e1; injection e1 with e1
          have := hlt _ _ _ h2 m2 e2; omega
        · subst q; rw [if_neg p] at h1; rw [Lab.set_ne (Ne.symm p)] at e1; rw [Lab.set_eq] at e2; injection e2 with e2
          have := hlt _ _ _ h1 m1 e1; omega
        · rw [if_neg p] at h1; rw [if_neg q] at h2; rw [Lab.set_ne (Ne.symm p)] at e1; rw [Lab.set_ne (Ne.symm q)] at e2
          exact hs.inj _ _ _ _ _ h1 h2 m1 m2 e1 e2
      · intro l e xs b hl hb
        rw [Hp.get_cons] at hl
        by_cases p : f = l
        · rw [if_pos p] at hl; injection hl with hl; cases hl
        · rw [if_neg p] at hl; exact .inl hl
      · intro l hl
        rw [Hp.get_cons] at hl
        by_cases p : f = l
        · rw [if_pos p] at hl; cases hl
        · rw [if_neg p] at hl; rw [Lab.set_ne (Ne.symm p)]; exact hs.non l hl
    · simp only [repV]
      refine ⟨some ⟨g, 0, none⟩, ys.length, cap, rfl, by rw [Hp.get_cons, if_pos rfl]; simp, fun e' xs o hB => ?_⟩
      rw [Hp.get_cons, if_pos rfl] at hB
      injection hB with hB
      injection hB with q1 q2 q3
      subst q1
      have q2 := eq_of_heq q2
      subst q2
      refine ⟨rfl, hn, by rw [Lab.set_eq]; rfl, fun hh => (by rw [Lab.set_eq] at hh; cases hh), fun b hb => ?_⟩
      rw [Lab.set_eq] at hb
      injection hb with hb
      subst hb
      exact ⟨cur, t, _, hcell, by omega⟩

/-- A function of plain data that returns a row of its own, as the walk calls it. -/
def freshSpec (ps : List Kd) (e : Kd) (raw : (kdP ps).T → Option (List e.T)) : Spec := fun us fr => match (flatV us).all AV.one with
  | true => frees (flatV us) fun cs ws => match encVs ps us cs with
    | some x => .opt (raw x) fun ys => .ret (.own fr) ((fr, .arr e ys true) :: ws)
    | none => .fail
  | false => .fail
structure FreshOk (P : Program) (N : Nat) (G : World → Prop) (g : FuncId) (ps : List Kd) (e : Kd) (raw : (kdP ps).T → Option (List e.T)) : Prop where
  enters : enters P g = true
  calls : ∀ (X : Nat → Prop) (w : World) (x : (kdP ps).T) (ys : List e.T) (vals : List Value), (∀ b, X b → b < w.heap.size) → G w → N ≤ w.heap.size → repVs [] (fun _ => none) w X (argsA ps x) vals → raw x = some ys →
    Calls P g vals.toArray w fun ex w' => ∃ v t news, ex = .returned v ∧ Below w.heap.size w w' ∧ w'.ownsRow w.heap.size t e.wd v ys.length news ∧ reps (rep w X e) ys news ∧ rowT e t = true
section
variable {P : Program} {N : Nat} {G : World → Prop}
theorem FreshOk.spec {g : FuncId} {ps : List Kd} {e : Kd} {raw : (kdP ps).T → Option (List e.T)} (hp : FreshOk P N G g ps e raw) : SpecOk P N G g (freshSpec ps e raw) := by
  refine ⟨hp.enters, fun X h φ w us vals fr v ws tm hs hE hr hfr he => ?_⟩
  unfold freshSpec at he
  split at he
  · rename_i hone
    obtain ⟨cs, fws, he, hfre, _, hlen⟩ := frees_ok (X := X) (φ := φ) (w := w) he
    split at he
    · rename_i x hx
      rw [eval_opt] at he
      split at he
      · rename_i ys hy
        simp only [RM.eval, Option.some.injEq, Prod.mk.injEq] at he
        obtain ⟨rfl, rfl⟩ := he
        have hps := hfre.post hs
        have hcs := hfre.vals hs _ (flat_rep hone hr) _ _ _ _ (Up.refl _ _ _ _)
        have hargs := encVs_rep hx hone hr hcs
        have hargs0 : repVs [] (fun _ => none) w (MB X (fws ++ h) φ) (argsA ps x) vals := argsAs_up (Keeps.refl _ _) _ _ (fun p => argsA_nolab p ps x) hargs
        have hf0 : (fws ++ h : Hp).get fr = none := by
          rw [hfre.get]
          have h0 := hfr fr (Nat.le_refl _) (by omega)
          cases hq : (fws : Hp).get fr with
          | none => exact h0
          | some B =>
            obtain ⟨e', xs', o', -, h2⟩ := hfre.only fr B hq
            rw [h0] at h2; cases h2
        refine (hp.calls (MB X (fws ++ h) φ) w x ys vals (fun b hb => ?_) hE.g hE.n hargs0 hy).mono fun ex w' ⟨u, t, news, h1, h2, h3, h4, h5⟩ => ?_
        · rcases hb with hb | hb
          · exact hs.xlt b hb
          · exact own_lt hps.sat hb
        · obtain ⟨φ', h6, h7⟩ := post_fresh hps.sat hf0 h2 h3 h4 h5
          exact ⟨u, φ', h1, hps.trans h6, h7⟩
      · cases he
    · cases he
  · cases he
end
theorem reps_one {w : World} {M : Nat → Prop} {e : Kd} : ∀ {xs : List e.T} {vs : List Value}, reps (rep w M e) xs vs → vs.length = xs.length * e.wd → ∀ u ∈ vs, u.oneCell' = true
  | [], vs, _, hl, u, hu => by
    have : vs = [] := List.eq_nil_of_length_eq_zero (by simpa using hl)
    subst this; cases hu
  | x :: xs, _, ⟨p, q, rfl, q1, q2⟩, hl, u, hu => by
    rw [List.length_append, rep_len q1, List.length_cons, Nat.succ_mul] at hl
    rcases List.mem_append.1 hu with hu | hu
    · exact rep_one q1 u hu
    · exact reps_one q2 (by omega) u hu
/-- A slice of data: its cells. -/
theorem slice_cells {w : World} {M : Nat → Prop} {e : Kd} {xs : List e.T} {v : Value} (h : sliceRep w M (rep w M e) xs v) : ∃ A cap, v = .slice A xs.length cap ∧ (A = none → xs = []) ∧
    ∀ ad, A = some ad → ∃ news : List Value, news.length = xs.length * e.wd ∧ (∀ j u, news[j]? = some u → w.cell? (ad.add j) = some u) ∧ (∀ u ∈ news, u.oneCell' = true) ∧ reps (rep w M e) xs news := by
  obtain ⟨A, cap, rfl, h3, h4⟩ := h
  refine ⟨A, cap, rfl, fun hA => ?_, fun ad hA => ?_⟩
  · subst hA
    by_cases hx : xs = []
    · exact hx
    · obtain ⟨ad, h, _⟩ := h4 hx
      cases h
  · by_cases hx : xs = []
    · subst hx
      exact ⟨[], by simp, (fun j u hj => by simp at hj), (fun u hu => by cases hu), trivial⟩
    · obtain ⟨ad', h5, g1, _, c, tt, fr, g3, g4⟩ := h4 hx
      rw [hA] at h5
      injection h5 with h5
      subst h5
      obtain ⟨adb, ado, ads⟩ := ad
      simp only at g1 g3 g4
      subst g1
      have hle := reps_length (fun x u hh => rep_len hh) g4
      have hr : reps (rep w M e) xs ((c.toList.drop ado).take (xs.length * e.wd)) := reps_prefix (fun x u hh => rep_len hh) g4 (List.prefix_refl _)
      have hlen : ((c.toList.drop ado).take (xs.length * e.wd)).length = xs.length * e.wd := by rw [List.length_take]; omega
      refine ⟨_, hlen, fun j u hj => ?_, reps_one hr hlen, hr⟩
      rw [Addr.add_lit, cell_blk g3]
      rw [List.getElem?_take] at hj
      split at hj
      · rw [List.getElem?_drop] at hj; simpa using hj
      · cases hj
end Go.Proofs.Ytgabpbnndikheaa.I

namespace Go.Proofs.Ytgabpbnndikheaa.I
open Go.RowKit
set_option linter.unusedVariables false
set_option maxHeartbeats 2000000 in
set_option maxRecDepth 100000 in
theorem cloneBy_nil (n c : Nat) (w : World) : Calls Try.prog 26 #[.slice none n c] w fun e w' => e = .returned (.slice none 0 0) ∧ w' = w := by
  have q : ∀ (w : World) (a : Option Addr) (n c : Nat), (binOp .eql 22 (.slice a n c) (.slice none 0 0)).run Try.prog w = .ok (.bool a.isNone) w := fun w a n c => Lib.run_eql_slice_nil w _ _ a n c 0 0 Try.underlying22
  go_enter Try.func26, Try.ntmps26
  go_wp2
  go_ret
  exact ⟨rfl, rfl⟩
set_option maxHeartbeats 2000000 in
set_option maxRecDepth 100000 in
theorem cloneBy_some (ad : Addr) (n c : Nat) (news : List Value) (w : World) (hbig : n * 1 ≤ 140737488355328) (hl : news.length = n * 1) (hc : ∀ (j : Nat) u, news[j]? = some u → w.cell? (ad.add j) = some u) (h1 : ∀ u ∈ news, u.oneCell' = true) :
    Calls Try.prog 26 #[.slice (some ad) n c] w fun e w' => ∃ v', e = .returned v' ∧ Below w.heap.size w w' ∧ w'.ownsRow w.heap.size 5 1 v' n news := by
  obtain ⟨i0, hi, hz0, hz1, hz2⟩ := info_parts (P := Try.prog) (e := 5) (z := .int .u8 0) (size := 1) (bytes := 1) (by kernel_rfl)
  have t22 := Try.underlying22
  have q : ∀ (w : World) (a : Option Addr) (n c : Nat), (binOp .eql 22 (.slice a n c) (.slice none 0 0)).run Try.prog w = .ok (.bool a.isNone) w := fun w a n c => Lib.run_eql_slice_nil w _ _ a n c 0 0 Try.underlying22
  have u22 : ∀ w, Sem.run Try.prog (underlying 22) w = .ok (TypeDesc.slice 5) w := run_underlying t22
  have A : Aside (∀ (j : Nat) u, news[j]? = some u → w.cell? (ad.add j) = some u) := hc
  clear hc
  go_enter Try.func26, Try.ntmps26
  go_wp2_with (at_builtin; refine wpList_append_own _ rfl _ _ 22 rfl w.heap.size 5 i0 (.int .u8 0) 1 1 t22 hi hz0 hz1 hz2 rfl (by decide) _ _ _ rfl (World.ownsRow_made w #[] 0 (Nat.le_refl _) (Nat.zero_le _) rfl) ad n c news rfl ?qc1 ?qc2 ?qc3 ?qc4 ?qc5 ?qc6 ?_)
  case qc1 => exact hl
  case qc2 => exact fun j u hj => Lib.cell?_alloc_some _ (A.out j u hj)
  case qc3 => exact h1
  case qc4 => unfold maxLen; omega
  case qc5 => omega
  case qc6 => simp
  intro v' w1 hown hgrow hnil
  go_wp2
  go_ret
  exact ⟨v', rfl, ((Below.refl _ w).alloc (Nat.le_refl _) _).grown hgrow (by simp) (by intro k hk; simp [Value.ownBlock] at hk; omega), by simpa using hown⟩
def cloneByR (x : (kdP [.slice (.int .u8)]).T) : Option (List ((.int .u8) : Kd).T) := cond (fits (List.length x.1) 1) (some x.1) none
noncomputable def cloneByS : Spec := freshSpec [.slice (.int .u8)] (.int .u8) cloneByR
theorem cloneByF {N : Nat} {G : World → Prop} : FreshOk Try.prog N G 26 [.slice (.int .u8)] (.int .u8) cloneByR := by
  refine ⟨by kernel_rfl, fun X w x ys vals hX hG hN hr hy => ?_⟩
  obtain ⟨xs, ⟨⟩⟩ := x
  obtain ⟨v, vs, rfl, h1, h2⟩ := hr
  have h1 : sliceRep w X (rep w X (.int .u8)) xs v := h1
  have h2 : vs = [] := h2
  subst h2
  unfold cloneByR at hy
  cases hd : fits (List.length xs) 1 with
  | false => simp only [hd] at hy; cases hy
  | true =>
    simp only [hd, cond_true] at hy
    injection hy with hy
    subst hy
    have hd := of_decide_eq_true hd
    obtain ⟨A, cap, rfl, hn, hs⟩ := slice_cells h1
    cases A with
    | none =>
      have hx := hn rfl
      subst hx
      refine (cloneBy_nil 0 cap w).mono ?_
      rintro ex w' ⟨rfl, rfl⟩
      exact ⟨_, 5, [], rfl, Below.refl _ _, ⟨by simp, .inl ⟨rfl, rfl⟩⟩, trivial, rfl⟩
    | some ad =>
      obtain ⟨news, g1, g2, g3, g4⟩ := hs ad rfl
      refine (cloneBy_some ad xs.length cap news w hd g1 g2 g3).mono ?_
      rintro ex w' ⟨v', rfl, h5, h6⟩
      refine ⟨_, 5, news, rfl, h5, h6, ?_, rfl⟩
      exact g4
theorem cloneByS_ok {N : Nat} {G : World → Prop} : SpecOk Try.prog N G 26 cloneByS := (cloneByF (N := N) (G := G)).spec

end Go.Proofs.Ytgabpbnndikheaa.I

namespace Go.Proofs.Ytgabpbnndikheaa.I
open Go.RowKit
set_option linter.unusedVariables false
set_option maxRecDepth 100000
/-- terrier/terrmake.Below -/
noncomputable def r22 (x : (kdP [(.int .i64), (.int .i64)]).T) : Option (kdP [(.int .i64)]).T :=
  (cond (Decidable.decide (Eq x.2.1 (0 : Int))) (Option.none) (cond (Decidable.decide (LT.lt (Int.tmod x.1 x.2.1) (0 : Int))) (Option.some ((IntKind.wrap IntKind.i64 (HAdd.hAdd (Int.tmod x.1 x.2.1) x.2.1)), Unit.unit)) (Option.some ((Int.tmod x.1 x.2.1), Unit.unit))))
theorem r22_ok : PureOk Go.Proofs.Try.prog 0 (fun _ => True) 22 [(.int .i64), (.int .i64)] [(.int .i64)] r22 :=
  pureOk_of_run (F := specOf []) (hs := hintOf []) stays_triv specOf_nil mixed Go.Proofs.Try.func22 rfl (by kernel_rfl) (fun _ => by kernel_rfl)

/-- (*terrier/terrmake.Stream).Next -/
noncomputable def r40 (x : (kdP [(.int .i64)]).T) (d : (kdL [.lf (.slice (.int .i64))]).T) : Option ((kdP [(.int .i64)]).T × (kdL [.lf (.slice (.int .i64))]).T) :=
  (cond (Decidable.decide (Eq (Nat.cast (List.length d.1) : Int) (0 : Int))) (Option.some (((0 : Int), Unit.unit), (d.1, Unit.unit))) (cond (Decidable.decide (LT.lt x.1 (1 : Int))) (Option.some (((0 : Int), Unit.unit), (d.1, Unit.unit))) (cond (inB (0 : Int) (List.length d.1)) (Option.bind (GetElem?.getElem? d.1 0) (fun x0 => (cond (upTo (1 : Int) (Nat.cast (List.length d.1) : Int)) (Option.bind (r22 (x0, (x.1, Unit.unit))) (fun x1 => (Option.some ((x1.1, Unit.unit), ((List.drop 1 d.1), Unit.unit))))) (Option.none)))) (Option.none))))
theorem r40_ok : SpecOk Go.Proofs.Try.prog 0 (fun _ => True) 40 (memSpec [.ptr 0 0, .dat (.int .i64)] [(0, [.lf (.slice (.int .i64))])] [(0, [.lf (.slice (.int .i64))])] [(.int .i64)] r40) :=
  memSpec_ok (F := specOf [(22, pureSpec [(.int .i64), (.int .i64)] [(.int .i64)] r22)]) (hs := hintOf []) stays_triv (specOf_cons (PureOk.spec r22_ok) specOf_nil) mixed Go.Proofs.Try.func40 rfl (by kernel_rfl) (by kernel_rfl) (fun _ _ => by kernel_rfl)

/-- (*terrier/terrmake.Stream).point -/
noncomputable def r50 (x : (kdP []).T) (d : (kdL [.lf (.slice (.int .i64))]).T) : Option ((kdP [(.pair (.int .i64) (.pair (.int .i64) .unit))]).T × (kdL [.lf (.slice (.int .i64))]).T) :=
  (Option.bind (r40 ((81 : Int), Unit.unit) (d.1, Unit.unit)) (fun x0 => (Option.bind (r40 ((81 : Int), Unit.unit) (x0.2.1, Unit.unit)) (fun x1 => (Option.some ((((IntKind.wrap IntKind.i64 (HSub.hSub x0.1.1 (40 : Int))), ((IntKind.wrap IntKind.i64 (HSub.hSub x1.1.1 (40 : Int))), Unit.unit)), Unit.unit), (x1.2.1, Unit.unit)))))))
theorem r50_ok : SpecOk Go.Proofs.Try.prog 0 (fun _ => True) 50 (memSpec [.ptr 0 0] [(0, [.lf (.slice (.int .i64))])] [(0, [.lf (.slice (.int .i64))])] [(.pair (.int .i64) (.pair (.int .i64) .unit))] r50) :=
  memSpec_ok (F := specOf [(40, memSpec [.ptr 0 0, .dat (.int .i64)] [(0, [.lf (.slice (.int .i64))])] [(0, [.lf (.slice (.int .i64))])] [(.int .i64)] r40)]) (hs := hintOf []) stays_triv (specOf_cons r40_ok specOf_nil) mixed Go.Proofs.Try.func50 rfl (by kernel_rfl) (by kernel_rfl) (fun _ _ => by kernel_rfl)

/-- terrier/terrmake.line -/
noncomputable def r51 (x : (kdP [(.int .i64)]).T) (d : (kdL [.lf (.slice (.int .i64))]).T) : Option ((kdP [(.slice (.pair (.int .i64) (.pair (.int .i64) .unit)))]).T × (kdL [.lf (.slice (.int .i64))]).T) :=
  (Option.bind (r50 Unit.unit (d.1, Unit.unit)) (fun x0 => (Option.bind (loop (D := (Prod (Kd.T (.pair (.slice (.pair (.int .i64) (.pair (.int .i64) .unit))) (.pair (.slice (.int .i64)) .unit))) (Kd.T .unit))) (O := (Sum (Kd.T (.pair (.pair (.slice (.pair (.int .i64) (.pair (.int .i64) .unit))) (.pair (.slice (.int .i64)) .unit)) .unit)) (OutT (List.nil)))) (fun x1 => (cond (Decidable.decide (LT.lt (Nat.cast (List.length x1.1.1) : Int) x.1)) (Option.bind (r50 Unit.unit (x1.1.2.1, Unit.unit)) (fun x2 => (cond (inB (IntKind.wrap IntKind.i64 (HSub.hSub (Nat.cast (List.length x1.1.1) : Int) (1 : Int))) (List.length x1.1.1)) (Option.bind (GetElem?.getElem? x1.1.1 (Int.toNat (IntKind.wrap IntKind.i64 (HSub.hSub (Nat.cast (List.length x1.1.1) : Int) (1 : Int))))) (fun x3 => (cond (Bool.and (Decidable.decide (Eq x2.1.1.1 x3.1)) (Decidable.decide (Eq x2.1.1.2.1 x3.2.1))) (cond (fits (HAdd.hAdd (List.length x1.1.1) (List.length (List.cons ((IntKind.wrap IntKind.i64 (HAdd.hAdd x2.1.1.1 (1 : Int))), (x2.1.1.2.1, Unit.unit)) (List.nil)))) 16) (Option.some (Sum.inl (((HAppend.hAppend x1.1.1 (List.cons ((IntKind.wrap IntKind.i64 (HAdd.hAdd x2.1.1.1 (1 : Int))), (x2.1.1.2.1, Unit.unit)) (List.nil))), (x2.2.1, Unit.unit)), Unit.unit))) (Option.none)) (cond (fits (HAdd.hAdd (List.length x1.1.1) (List.length (List.cons (x2.1.1.1, (x2.1.1.2.1, Unit.unit)) (List.nil)))) 16) (Option.some (Sum.inl (((HAppend.hAppend x1.1.1 (List.cons (x2.1.1.1, (x2.1.1.2.1, Unit.unit)) (List.nil))), (x2.2.1, Unit.unit)), Unit.unit))) (Option.none))))) (Option.none)))) (Option.some (Sum.inr (Sum.inl ((x1.1.1, (x1.1.2.1, Unit.unit)), Unit.unit)))))) (((List.cons (x0.1.1.1, (x0.1.1.2.1, Unit.unit)) (List.nil)), (x0.2.1, Unit.unit)), Unit.unit)) (sumE (fun x1 => (Option.some ((x1.1.1, Unit.unit), (x1.1.2.1, Unit.unit)))) (emptyE)))))
theorem r51_ok : SpecOk Go.Proofs.Try.prog 0 (fun _ => True) 51 (memSpec [.ptr 0 0, .dat (.int .i64)] [(0, [.lf (.slice (.int .i64))])] [(0, [.lf (.slice (.int .i64))])] [(.slice (.pair (.int .i64) (.pair (.int .i64) .unit)))] r51) :=
  memSpec_ok (F := specOf [(50, memSpec [.ptr 0 0] [(0, [.lf (.slice (.int .i64))])] [(0, [.lf (.slice (.int .i64))])] [(.pair (.int .i64) (.pair (.int .i64) .unit))] r50)]) (hs := hintOf [(0, ⟨⟨[(5, .own (.pair (.int .i64) (.pair (.int .i64) .unit)))], [(0, [.lf (.slice (.int .i64))])], []⟩, [((.exit 0), ⟨[(5, .own (.pair (.int .i64) (.pair (.int .i64) .unit)))], [(0, [.lf (.slice (.int .i64))])], []⟩)]⟩)]) stays_triv (specOf_cons r50_ok specOf_nil) mixed Go.Proofs.Try.func51 rfl (by kernel_rfl) (by kernel_rfl) (fun _ _ => by kernel_rfl)

/-- terrier/terrmake.Area$1 -/
noncomputable def r60 (x : (kdP [(.int .i64), (.int .i64), (.int .i64)]).T) : Option (kdP [(.slice (.pair (.int .i64) (.pair (.int .i64) .unit)))]).T :=
  (Option.some ((List.cons ((IntKind.wrap IntKind.i64 (HSub.hSub x.1 x.2.2.1)), ((IntKind.wrap IntKind.i64 (HSub.hSub x.2.1 x.2.2.1)), Unit.unit)) (List.cons ((IntKind.wrap IntKind.i64 (HAdd.hAdd x.1 x.2.2.1)), ((IntKind.wrap IntKind.i64 (HSub.hSub x.2.1 x.2.2.1)), Unit.unit)) (List.cons ((IntKind.wrap IntKind.i64 (HAdd.hAdd x.1 x.2.2.1)), ((IntKind.wrap IntKind.i64 (HAdd.hAdd x.2.1 x.2.2.1)), Unit.unit)) (List.cons ((IntKind.wrap IntKind.i64 (HSub.hSub x.1 x.2.2.1)), ((IntKind.wrap IntKind.i64 (HAdd.hAdd x.2.1 x.2.2.1)), Unit.unit)) (List.nil))))), Unit.unit))
theorem r60_ok : PureOk Go.Proofs.Try.prog 0 (fun _ => True) 60 [(.int .i64), (.int .i64), (.int .i64)] [(.slice (.pair (.int .i64) (.pair (.int .i64) .unit)))] r60 :=
  pureOk_of_run (F := specOf []) (hs := hintOf []) stays_triv specOf_nil mixed Go.Proofs.Try.func60 rfl (by kernel_rfl) (fun _ => by kernel_rfl)

/-- terrier/terrmake.Area$2 -/
noncomputable def r61 (x : (kdP [(.int .i64), (.int .i64), (.int .i64)]).T) : Option (kdP [(.slice (.pair (.int .i64) (.pair (.int .i64) .unit)))]).T :=
  (Option.some ((List.cons ((IntKind.wrap IntKind.i64 (HSub.hSub x.1 x.2.2.1)), ((IntKind.wrap IntKind.i64 (HSub.hSub x.2.1 x.2.2.1)), Unit.unit)) (List.cons ((IntKind.wrap IntKind.i64 (HSub.hSub x.1 x.2.2.1)), ((IntKind.wrap IntKind.i64 (HAdd.hAdd x.2.1 x.2.2.1)), Unit.unit)) (List.cons ((IntKind.wrap IntKind.i64 (HAdd.hAdd x.1 x.2.2.1)), ((IntKind.wrap IntKind.i64 (HAdd.hAdd x.2.1 x.2.2.1)), Unit.unit)) (List.cons ((IntKind.wrap IntKind.i64 (HAdd.hAdd x.1 x.2.2.1)), ((IntKind.wrap IntKind.i64 (HSub.hSub x.2.1 x.2.2.1)), Unit.unit)) (List.nil))))), Unit.unit))
theorem r61_ok : PureOk Go.Proofs.Try.prog 0 (fun _ => True) 61 [(.int .i64), (.int .i64), (.int .i64)] [(.slice (.pair (.int .i64) (.pair (.int .i64) .unit)))] r61 :=
  pureOk_of_run (F := specOf []) (hs := hintOf []) stays_triv specOf_nil mixed Go.Proofs.Try.func61 rfl (by kernel_rfl) (fun _ => by kernel_rfl)

/-- terrier/terrmake.Area -/
noncomputable def r52 (x : (kdP [(.slice (.int .i64))]).T) : Option (kdP [(.slice (.slice (.pair (.int .i64) (.pair (.int .i64) .unit))))]).T :=
  (Option.bind (r40 ((30 : Int), Unit.unit) (x.1, Unit.unit)) (fun x0 => (Option.bind (r40 ((30 : Int), Unit.unit) (x0.2.1, Unit.unit)) (fun x1 => (Option.bind (r40 ((10 : Int), Unit.unit) (x1.2.1, Unit.unit)) (fun x2 => (Option.bind (r60 ((IntKind.wrap IntKind.i64 (HSub.hSub x0.1.1 (15 : Int))), ((IntKind.wrap IntKind.i64 (HSub.hSub x1.1.1 (15 : Int))), ((IntKind.wrap IntKind.i64 (HAdd.hAdd (6 : Int) x2.1.1)), Unit.unit)))) (fun x3 => (Option.bind (r40 ((4 : Int), Unit.unit) (x2.2.1, Unit.unit)) (fun x4 => (cond (Decidable.decide (Eq x4.1.1 (1 : Int))) (Option.bind (r40 ((IntKind.wrap IntKind.i64 (HSub.hSub (IntKind.wrap IntKind.i64 (HAdd.hAdd (6 : Int) x2.1.1)) (2 : Int))), Unit.unit) (x4.2.1, Unit.unit)) (fun x5 => (Option.bind (r61 ((IntKind.wrap IntKind.i64 (HSub.hSub x0.1.1 (15 : Int))), ((IntKind.wrap IntKind.i64 (HSub.hSub x1.1.1 (15 : Int))), ((IntKind.wrap IntKind.i64 (HAdd.hAdd (1 : Int) x5.1.1)), Unit.unit)))) (fun x6 => (Option.some ((HAppend.hAppend (List.cons x3.1 (List.nil)) (List.cons x6.1 (List.nil))), Unit.unit)))))) (cond (Decidable.decide (Eq x4.1.1 (2 : Int))) (Option.bind (r40 ((IntKind.wrap IntKind.i64 (HSub.hSub (IntKind.wrap IntKind.i64 (HAdd.hAdd (6 : Int) x2.1.1)) (4 : Int))), Unit.unit) (x4.2.1, Unit.unit)) (fun x5 => (Option.bind (r61 ((IntKind.wrap IntKind.i64 (HSub.hSub x0.1.1 (15 : Int))), ((IntKind.wrap IntKind.i64 (HSub.hSub x1.1.1 (15 : Int))), ((IntKind.wrap IntKind.i64 (HAdd.hAdd (3 : Int) x5.1.1)), Unit.unit)))) (fun x6 => (Option.bind (r40 ((IntKind.wrap IntKind.i64 (HSub.hSub (IntKind.wrap IntKind.i64 (HAdd.hAdd (3 : Int) x5.1.1)) (2 : Int))), Unit.unit) (x5.2.1, Unit.unit)) (fun x7 => (Option.bind (r60 ((IntKind.wrap IntKind.i64 (HSub.hSub x0.1.1 (15 : Int))), ((IntKind.wrap IntKind.i64 (HSub.hSub x1.1.1 (15 : Int))), ((IntKind.wrap IntKind.i64 (HAdd.hAdd (1 : Int) x7.1.1)), Unit.unit)))) (fun x8 => (Option.some ((HAppend.hAppend (List.cons x3.1 (List.nil)) (List.cons x6.1 (List.cons x8.1 (List.nil)))), Unit.unit)))))))))) (cond (Decidable.decide (Eq x4.1.1 (3 : Int))) (Option.bind (r40 ((3 : Int), Unit.unit) (x4.2.1, Unit.unit)) (fun x5 => (Option.bind (r60 ((IntKind.wrap IntKind.i64 (HAdd.hAdd (IntKind.wrap IntKind.i64 (HAdd.hAdd (IntKind.wrap IntKind.i64 (HAdd.hAdd (IntKind.wrap IntKind.i64 (HSub.hSub x0.1.1 (15 : Int))) (IntKind.wrap IntKind.i64 (HAdd.hAdd (6 : Int) x2.1.1)))) (3 : Int))) x5.1.1)), ((IntKind.wrap IntKind.i64 (HSub.hSub x1.1.1 (15 : Int))), ((2 : Int), Unit.unit)))) (fun x6 => (Option.some ((HAppend.hAppend (List.cons x3.1 (List.nil)) (List.cons x6.1 (List.nil))), Unit.unit)))))) (Option.some ((List.cons x3.1 (List.nil)), Unit.unit)))))))))))))))
theorem r52_ok : PureOk Go.Proofs.Try.prog 0 (fun _ => True) 52 [(.slice (.int .i64))] [(.slice (.slice (.pair (.int .i64) (.pair (.int .i64) .unit))))] r52 :=
  pureOk_of_run (F := specOf [(40, memSpec [.ptr 0 0, .dat (.int .i64)] [(0, [.lf (.slice (.int .i64))])] [(0, [.lf (.slice (.int .i64))])] [(.int .i64)] r40), (60, pureSpec [(.int .i64), (.int .i64), (.int .i64)] [(.slice (.pair (.int .i64) (.pair (.int .i64) .unit)))] r60), (61, pureSpec [(.int .i64), (.int .i64), (.int .i64)] [(.slice (.pair (.int .i64) (.pair (.int .i64) .unit)))] r61)]) (hs := hintOf []) stays_triv (specOf_cons r40_ok (specOf_cons (PureOk.spec r60_ok) (specOf_cons (PureOk.spec r61_ok) specOf_nil))) mixed Go.Proofs.Try.func52 rfl (by kernel_rfl) (fun _ => by kernel_rfl)

/-- terrier/terrmake.attrs -/
noncomputable def r53 (x : (kdP []).T) (d : (kdL [.lf (.slice (.int .i64))]).T) : Option ((kdP [(.slice (.pair .str (.pair (.pair (.int .i64) (.pair (.int .i64) (.pair .str (.pair .bool .unit)))) .unit)))]).T × (kdL [.lf (.slice (.int .i64))]).T) :=
  (Option.bind (r40 ((3 : Int), Unit.unit) (d.1, Unit.unit)) (fun x0 => (cond (Decidable.decide (LT.lt (0 : Int) x0.1.1)) (Option.bind (r40 ((50 : Int), Unit.unit) (x0.2.1, Unit.unit)) (fun x1 => (Option.bind (r40 ((3 : Int), Unit.unit) (x1.2.1, Unit.unit)) (fun x2 => (cond (Decidable.decide (LT.lt (0 : Int) x2.1.1)) (Option.bind (r40 ((4 : Int), Unit.unit) (x2.2.1, Unit.unit)) (fun x3 => (cond (inB x3.1.1 4) (Option.bind (GetElem?.getElem? (List.cons (ByteArray.mk (List.toArray (List.cons (114 : UInt8) (List.cons (111 : UInt8) (List.cons (97 : UInt8) (List.cons (100 : UInt8) (List.nil))))))) (List.cons (ByteArray.mk (List.toArray (List.cons (108 : UInt8) (List.cons (97 : UInt8) (List.cons (107 : UInt8) (List.cons (101 : UInt8) (List.nil))))))) (List.cons (ByteArray.mk (List.toArray (List.cons (119 : UInt8) (List.cons (111 : UInt8) (List.cons (111 : UInt8) (List.cons (100 : UInt8) (List.nil))))))) (List.cons (ByteArray.mk (List.toArray (List.nil))) (List.nil))))) (Int.toNat x3.1.1)) (fun x4 => (Option.bind (r40 ((3 : Int), Unit.unit) (x3.2.1, Unit.unit)) (fun x5 => (cond (Decidable.decide (LT.lt (1 : Int) x5.1.1)) (Option.bind (r40 ((3 : Int), Unit.unit) (x5.2.1, Unit.unit)) (fun x6 => (cond (inB x6.1.1 3) (Option.bind (GetElem?.getElem? (List.cons (ByteArray.mk (List.toArray (List.cons (65 : UInt8) (List.cons (108 : UInt8) (List.cons (100 : UInt8) (List.cons (101 : UInt8) (List.cons (114 : UInt8) (List.nil)))))))) (List.cons (ByteArray.mk (List.toArray (List.cons (66 : UInt8) (List.cons (105 : UInt8) (List.cons (114 : UInt8) (List.cons (99 : UInt8) (List.cons (104 : UInt8) (List.cons (32 : UInt8) (List.cons (72 : UInt8) (List.cons (105 : UInt8) (List.cons (108 : UInt8) (List.cons (108 : UInt8) (List.nil))))))))))))) (List.cons (ByteArray.mk (List.toArray (List.cons (67 : UInt8) (List.cons (111 : UInt8) (List.cons (118 : UInt8) (List.cons (101 : UInt8) (List.nil))))))) (List.nil)))) (Int.toNat x6.1.1)) (fun x7 => (Option.bind (r40 ((3 : Int), Unit.unit) (x6.2.1, Unit.unit)) (fun x8 => (cond (Decidable.decide (LT.lt (1 : Int) x8.1.1)) (Option.bind (r40 ((2 : Int), Unit.unit) (x8.2.1, Unit.unit)) (fun x9 => (Option.some (((HAppend.hAppend (HAppend.hAppend (HAppend.hAppend (List.cons ((ByteArray.mk (List.toArray (List.cons (104 : UInt8) (List.cons (101 : UInt8) (List.cons (105 : UInt8) (List.cons (103 : UInt8) (List.cons (104 : UInt8) (List.cons (116 : UInt8) (List.nil))))))))), (((1 : Int), ((IntKind.wrap IntKind.i64 (HSub.hSub x1.1.1 (5 : Int))), ((ByteArray.mk (List.toArray (List.nil))), (Bool.false, Unit.unit)))), Unit.unit)) (List.nil)) (List.cons ((ByteArray.mk (List.toArray (List.cons (107 : UInt8) (List.cons (105 : UInt8) (List.cons (110 : UInt8) (List.cons (100 : UInt8) (List.nil))))))), (((2 : Int), ((0 : Int), (x4, (Bool.false, Unit.unit)))), Unit.unit)) (List.nil))) (List.cons ((ByteArray.mk (List.toArray (List.cons (110 : UInt8) (List.cons (97 : UInt8) (List.cons (109 : UInt8) (List.cons (101 : UInt8) (List.nil))))))), (((2 : Int), ((0 : Int), (x7, (Bool.false, Unit.unit)))), Unit.unit)) (List.nil))) (List.cons ((ByteArray.mk (List.toArray (List.cons (111 : UInt8) (List.cons (112 : UInt8) (List.cons (101 : UInt8) (List.cons (110 : UInt8) (List.nil))))))), (((3 : Int), ((0 : Int), ((ByteArray.mk (List.toArray (List.nil))), ((Decidable.decide (Eq x9.1.1 (1 : Int))), Unit.unit)))), Unit.unit)) (List.nil))), Unit.unit), (x9.2.1, Unit.unit))))) (Option.some (((HAppend.hAppend (HAppend.hAppend (List.cons ((ByteArray.mk (List.toArray (List.cons (104 : UInt8) (List.cons (101 : UInt8) (List.cons (105 : UInt8) (List.cons (103 : UInt8) (List.cons (104 : UInt8) (List.cons (116 : UInt8) (List.nil))))))))), (((1 : Int), ((IntKind.wrap IntKind.i64 (HSub.hSub x1.1.1 (5 : Int))), ((ByteArray.mk (List.toArray (List.nil))), (Bool.false, Unit.unit)))), Unit.unit)) (List.nil)) (List.cons ((ByteArray.mk (List.toArray (List.cons (107 : UInt8) (List.cons (105 : UInt8) (List.cons (110 : UInt8) (List.cons (100 : UInt8) (List.nil))))))), (((2 : Int), ((0 : Int), (x4, (Bool.false, Unit.unit)))), Unit.unit)) (List.nil))) (List.cons ((ByteArray.mk (List.toArray (List.cons (110 : UInt8) (List.cons (97 : UInt8) (List.cons (109 : UInt8) (List.cons (101 : UInt8) (List.nil))))))), (((2 : Int), ((0 : Int), (x7, (Bool.false, Unit.unit)))), Unit.unit)) (List.nil))), Unit.unit), (x8.2.1, Unit.unit)))))))) (Option.none)))) (Option.bind (r40 ((3 : Int), Unit.unit) (x5.2.1, Unit.unit)) (fun x6 => (cond (Decidable.decide (LT.lt (1 : Int) x6.1.1)) (Option.bind (r40 ((2 : Int), Unit.unit) (x6.2.1, Unit.unit)) (fun x7 => (Option.some (((HAppend.hAppend (HAppend.hAppend (List.cons ((ByteArray.mk (List.toArray (List.cons (104 : UInt8) (List.cons (101 : UInt8) (List.cons (105 : UInt8) (List.cons (103 : UInt8) (List.cons (104 : UInt8) (List.cons (116 : UInt8) (List.nil))))))))), (((1 : Int), ((IntKind.wrap IntKind.i64 (HSub.hSub x1.1.1 (5 : Int))), ((ByteArray.mk (List.toArray (List.nil))), (Bool.false, Unit.unit)))), Unit.unit)) (List.nil)) (List.cons ((ByteArray.mk (List.toArray (List.cons (107 : UInt8) (List.cons (105 : UInt8) (List.cons (110 : UInt8) (List.cons (100 : UInt8) (List.nil))))))), (((2 : Int), ((0 : Int), (x4, (Bool.false, Unit.unit)))), Unit.unit)) (List.nil))) (List.cons ((ByteArray.mk (List.toArray (List.cons (111 : UInt8) (List.cons (112 : UInt8) (List.cons (101 : UInt8) (List.cons (110 : UInt8) (List.nil))))))), (((3 : Int), ((0 : Int), ((ByteArray.mk (List.toArray (List.nil))), ((Decidable.decide (Eq x7.1.1 (1 : Int))), Unit.unit)))), Unit.unit)) (List.nil))), Unit.unit), (x7.2.1, Unit.unit))))) (Option.some (((HAppend.hAppend (List.cons ((ByteArray.mk (List.toArray (List.cons (104 : UInt8) (List.cons (101 : UInt8) (List.cons (105 : UInt8) (List.cons (103 : UInt8) (List.cons (104 : UInt8) (List.cons (116 : UInt8) (List.nil))))))))), (((1 : Int), ((IntKind.wrap IntKind.i64 (HSub.hSub x1.1.1 (5 : Int))), ((ByteArray.mk (List.toArray (List.nil))), (Bool.false, Unit.unit)))), Unit.unit)) (List.nil)) (List.cons ((ByteArray.mk (List.toArray (List.cons (107 : UInt8) (List.cons (105 : UInt8) (List.cons (110 : UInt8) (List.cons (100 : UInt8) (List.nil))))))), (((2 : Int), ((0 : Int), (x4, (Bool.false, Unit.unit)))), Unit.unit)) (List.nil))), Unit.unit), (x6.2.1, Unit.unit))))))))))) (Option.none)))) (Option.bind (r40 ((3 : Int), Unit.unit) (x2.2.1, Unit.unit)) (fun x3 => (cond (Decidable.decide (LT.lt (1 : Int) x3.1.1)) (Option.bind (r40 ((3 : Int), Unit.unit) (x3.2.1, Unit.unit)) (fun x4 => (cond (inB x4.1.1 3) (Option.bind (GetElem?.getElem? (List.cons (ByteArray.mk (List.toArray (List.cons (65 : UInt8) (List.cons (108 : UInt8) (List.cons (100 : UInt8) (List.cons (101 : UInt8) (List.cons (114 : UInt8) (List.nil)))))))) (List.cons (ByteArray.mk (List.toArray (List.cons (66 : UInt8) (List.cons (105 : UInt8) (List.cons (114 : UInt8) (List.cons (99 : UInt8) (List.cons (104 : UInt8) (List.cons (32 : UInt8) (List.cons (72 : UInt8) (List.cons (105 : UInt8) (List.cons (108 : UInt8) (List.cons (108 : UInt8) (List.nil))))))))))))) (List.cons (ByteArray.mk (List.toArray (List.cons (67 : UInt8) (List.cons (111 : UInt8) (List.cons (118 : UInt8) (List.cons (101 : UInt8) (List.nil))))))) (List.nil)))) (Int.toNat x4.1.1)) (fun x5 => (Option.bind (r40 ((3 : Int), Unit.unit) (x4.2.1, Unit.unit)) (fun x6 => (cond (Decidable.decide (LT.lt (1 : Int) x6.1.1)) (Option.bind (r40 ((2 : Int), Unit.unit) (x6.2.1, Unit.unit)) (fun x7 => (Option.some (((HAppend.hAppend (HAppend.hAppend (List.cons ((ByteArray.mk (List.toArray (List.cons (104 : UInt8) (List.cons (101 : UInt8) (List.cons (105 : UInt8) (List.cons (103 : UInt8) (List.cons (104 : UInt8) (List.cons (116 : UInt8) (List.nil))))))))), (((1 : Int), ((IntKind.wrap IntKind.i64 (HSub.hSub x1.1.1 (5 : Int))), ((ByteArray.mk (List.toArray (List.nil))), (Bool.false, Unit.unit)))), Unit.unit)) (List.nil)) (List.cons ((ByteArray.mk (List.toArray (List.cons (110 : UInt8) (List.cons (97 : UInt8) (List.cons (109 : UInt8) (List.cons (101 : UInt8) (List.nil))))))), (((2 : Int), ((0 : Int), (x5, (Bool.false, Unit.unit)))), Unit.unit)) (List.nil))) (List.cons ((ByteArray.mk (List.toArray (List.cons (111 : UInt8) (List.cons (112 : UInt8) (List.cons (101 : UInt8) (List.cons (110 : UInt8) (List.nil))))))), (((3 : Int), ((0 : Int), ((ByteArray.mk (List.toArray (List.nil))), ((Decidable.decide (Eq x7.1.1 (1 : Int))), Unit.unit)))), Unit.unit)) (List.nil))), Unit.unit), (x7.2.1, Unit.unit))))) (Option.some (((HAppend.hAppend (List.cons ((ByteArray.mk (List.toArray (List.cons (104 : UInt8) (List.cons (101 : UInt8) (List.cons (105 : UInt8) (List.cons (103 : UInt8) (List.cons (104 : UInt8) (List.cons (116 : UInt8) (List.nil))))))))), (((1 : Int), ((IntKind.wrap IntKind.i64 (HSub.hSub x1.1.1 (5 : Int))), ((ByteArray.mk (List.toArray (List.nil))), (Bool.false, Unit.unit)))), Unit.unit)) (List.nil)) (List.cons ((ByteArray.mk (List.toArray (List.cons (110 : UInt8) (List.cons (97 : UInt8) (List.cons (109 : UInt8) (List.cons (101 : UInt8) (List.nil))))))), (((2 : Int), ((0 : Int), (x5, (Bool.false, Unit.unit)))), Unit.unit)) (List.nil))), Unit.unit), (x6.2.1, Unit.unit)))))))) (Option.none)))) (Option.bind (r40 ((3 : Int), Unit.unit) (x3.2.1, Unit.unit)) (fun x4 => (cond (Decidable.decide (LT.lt (1 : Int) x4.1.1)) (Option.bind (r40 ((2 : Int), Unit.unit) (x4.2.1, Unit.unit)) (fun x5 => (Option.some (((HAppend.hAppend (List.cons ((ByteArray.mk (List.toArray (List.cons (104 : UInt8) (List.cons (101 : UInt8) (List.cons (105 : UInt8) (List.cons (103 : UInt8) (List.cons (104 : UInt8) (List.cons (116 : UInt8) (List.nil))))))))), (((1 : Int), ((IntKind.wrap IntKind.i64 (HSub.hSub x1.1.1 (5 : Int))), ((ByteArray.mk (List.toArray (List.nil))), (Bool.false, Unit.unit)))), Unit.unit)) (List.nil)) (List.cons ((ByteArray.mk (List.toArray (List.cons (111 : UInt8) (List.cons (112 : UInt8) (List.cons (101 : UInt8) (List.cons (110 : UInt8) (List.nil))))))), (((3 : Int), ((0 : Int), ((ByteArray.mk (List.toArray (List.nil))), ((Decidable.decide (Eq x5.1.1 (1 : Int))), Unit.unit)))), Unit.unit)) (List.nil))), Unit.unit), (x5.2.1, Unit.unit))))) (Option.some (((List.cons ((ByteArray.mk (List.toArray (List.cons (104 : UInt8) (List.cons (101 : UInt8) (List.cons (105 : UInt8) (List.cons (103 : UInt8) (List.cons (104 : UInt8) (List.cons (116 : UInt8) (List.nil))))))))), (((1 : Int), ((IntKind.wrap IntKind.i64 (HSub.hSub x1.1.1 (5 : Int))), ((ByteArray.mk (List.toArray (List.nil))), (Bool.false, Unit.unit)))), Unit.unit)) (List.nil)), Unit.unit), (x4.2.1, Unit.unit)))))))))))))) (Option.bind (r40 ((3 : Int), Unit.unit) (x0.2.1, Unit.unit)) (fun x1 => (cond (Decidable.decide (LT.lt (0 : Int) x1.1.1)) (Option.bind (r40 ((4 : Int), Unit.unit) (x1.2.1, Unit.unit)) (fun x2 => (cond (inB x2.1.1 4) (Option.bind (GetElem?.getElem? (List.cons (ByteArray.mk (List.toArray (List.cons (114 : UInt8) (List.cons (111 : UInt8) (List.cons (97 : UInt8) (List.cons (100 : UInt8) (List.nil))))))) (List.cons (ByteArray.mk (List.toArray (List.cons (108 : UInt8) (List.cons (97 : UInt8) (List.cons (107 : UInt8) (List.cons (101 : UInt8) (List.nil))))))) (List.cons (ByteArray.mk (List.toArray (List.cons (119 : UInt8) (List.cons (111 : UInt8) (List.cons (111 : UInt8) (List.cons (100 : UInt8) (List.nil))))))) (List.cons (ByteArray.mk (List.toArray (List.nil))) (List.nil))))) (Int.toNat x2.1.1)) (fun x3 => (Option.bind (r40 ((3 : Int), Unit.unit) (x2.2.1, Unit.unit)) (fun x4 => (cond (Decidable.decide (LT.lt (1 : Int) x4.1.1)) (Option.bind (r40 ((3 : Int), Unit.unit) (x4.2.1, Unit.unit)) (fun x5 => (cond (inB x5.1.1 3) (Option.bind (GetElem?.getElem? (List.cons (ByteArray.mk (List.toArray (List.cons (65 : UInt8) (List.cons (108 : UInt8) (List.cons (100 : UInt8) (List.cons (101 : UInt8) (List.cons (114 : UInt8) (List.nil)))))))) (List.cons (ByteArray.mk (List.toArray (List.cons (66 : UInt8) (List.cons (105 : UInt8) (List.cons (114 : UInt8) (List.cons (99 : UInt8) (List.cons (104 : UInt8) (List.cons (32 : UInt8) (List.cons (72 : UInt8) (List.cons (105 : UInt8) (List.cons (108 : UInt8) (List.cons (108 : UInt8) (List.nil))))))))))))) (List.cons (ByteArray.mk (List.toArray (List.cons (67 : UInt8) (List.cons (111 : UInt8) (List.cons (118 : UInt8) (List.cons (101 : UInt8) (List.nil))))))) (List.nil)))) (Int.toNat x5.1.1)) (fun x6 => (Option.bind (r40 ((3 : Int), Unit.unit) (x5.2.1, Unit.unit)) (fun x7 => (cond (Decidable.decide (LT.lt (1 : Int) x7.1.1)) (Option.bind (r40 ((2 : Int), Unit.unit) (x7.2.1, Unit.unit)) (fun x8 => (Option.some (((HAppend.hAppend (HAppend.hAppend (List.cons ((ByteArray.mk (List.toArray (List.cons (107 : UInt8) (List.cons (105 : UInt8) (List.cons (110 : UInt8) (List.cons (100 : UInt8) (List.nil))))))), (((2 : Int), ((0 : Int), (x3, (Bool.false, Unit.unit)))), Unit.unit)) (List.nil)) (List.cons ((ByteArray.mk (List.toArray (List.cons (110 : UInt8) (List.cons (97 : UInt8) (List.cons (109 : UInt8) (List.cons (101 : UInt8) (List.nil))))))), (((2 : Int), ((0 : Int), (x6, (Bool.false, Unit.unit)))), Unit.unit)) (List.nil))) (List.cons ((ByteArray.mk (List.toArray (List.cons (111 : UInt8) (List.cons (112 : UInt8) (List.cons (101 : UInt8) (List.cons (110 : UInt8) (List.nil))))))), (((3 : Int), ((0 : Int), ((ByteArray.mk (List.toArray (List.nil))), ((Decidable.decide (Eq x8.1.1 (1 : Int))), Unit.unit)))), Unit.unit)) (List.nil))), Unit.unit), (x8.2.1, Unit.unit))))) (Option.some (((HAppend.hAppend (List.cons ((ByteArray.mk (List.toArray (List.cons (107 : UInt8) (List.cons (105 : UInt8) (List.cons (110 : UInt8) (List.cons (100 : UInt8) (List.nil))))))), (((2 : Int), ((0 : Int), (x3, (Bool.false, Unit.unit)))), Unit.unit)) (List.nil)) (List.cons ((ByteArray.mk (List.toArray (List.cons (110 : UInt8) (List.cons (97 : UInt8) (List.cons (109 : UInt8) (List.cons (101 : UInt8) (List.nil))))))), (((2 : Int), ((0 : Int), (x6, (Bool.false, Unit.unit)))), Unit.unit)) (List.nil))), Unit.unit), (x7.2.1, Unit.unit)))))))) (Option.none)))) (Option.bind (r40 ((3 : Int), Unit.unit) (x4.2.1, Unit.unit)) (fun x5 => (cond (Decidable.decide (LT.lt (1 : Int) x5.1.1)) (Option.bind (r40 ((2 : Int), Unit.unit) (x5.2.1, Unit.unit)) (fun x6 => (Option.some (((HAppend.hAppend (List.cons ((ByteArray.mk (List.toArray (List.cons (107 : UInt8) (List.cons (105 : UInt8) (List.cons (110 : UInt8) (List.cons (100 : UInt8) (List.nil))))))), (((2 : Int), ((0 : Int), (x3, (Bool.false, Unit.unit)))), Unit.unit)) (List.nil)) (List.cons ((ByteArray.mk (List.toArray (List.cons (111 : UInt8) (List.cons (112 : UInt8) (List.cons (101 : UInt8) (List.cons (110 : UInt8) (List.nil))))))), (((3 : Int), ((0 : Int), ((ByteArray.mk (List.toArray (List.nil))), ((Decidable.decide (Eq x6.1.1 (1 : Int))), Unit.unit)))), Unit.unit)) (List.nil))), Unit.unit), (x6.2.1, Unit.unit))))) (Option.some (((List.cons ((ByteArray.mk (List.toArray (List.cons (107 : UInt8) (List.cons (105 : UInt8) (List.cons (110 : UInt8) (List.cons (100 : UInt8) (List.nil))))))), (((2 : Int), ((0 : Int), (x3, (Bool.false, Unit.unit)))), Unit.unit)) (List.nil)), Unit.unit), (x5.2.1, Unit.unit))))))))))) (Option.none)))) (Option.bind (r40 ((3 : Int), Unit.unit) (x1.2.1, Unit.unit)) (fun x2 => (cond (Decidable.decide (LT.lt (1 : Int) x2.1.1)) (Option.bind (r40 ((3 : Int), Unit.unit) (x2.2.1, Unit.unit)) (fun x3 => (cond (inB x3.1.1 3) (Option.bind (GetElem?.getElem? (List.cons (ByteArray.mk (List.toArray (List.cons (65 : UInt8) (List.cons (108 : UInt8) (List.cons (100 : UInt8) (List.cons (101 : UInt8) (List.cons (114 : UInt8) (List.nil)))))))) (List.cons (ByteArray.mk (List.toArray (List.cons (66 : UInt8) (List.cons (105 : UInt8) (List.cons (114 : UInt8) (List.cons (99 : UInt8) (List.cons (104 : UInt8) (List.cons (32 : UInt8) (List.cons (72 : UInt8) (List.cons (105 : UInt8) (List.cons (108 : UInt8) (List.cons (108 : UInt8) (List.nil))))))))))))) (List.cons (ByteArray.mk (List.toArray (List.cons (67 : UInt8) (List.cons (111 : UInt8) (List.cons (118 : UInt8) (List.cons (101 : UInt8) (List.nil))))))) (List.nil)))) (Int.toNat x3.1.1)) (fun x4 => (Option.bind (r40 ((3 : Int), Unit.unit) (x3.2.1, Unit.unit)) (fun x5 => (cond (Decidable.decide (LT.lt (1 : Int) x5.1.1)) (Option.bind (r40 ((2 : Int), Unit.unit) (x5.2.1, Unit.unit)) (fun x6 => (Option.some (((HAppend.hAppend (List.cons ((ByteArray.mk (List.toArray (List.cons (110 : UInt8) (List.cons (97 : UInt8) (List.cons (109 : UInt8) (List.cons (101 : UInt8) (List.nil))))))), (((2 : Int), ((0 : Int), (x4, (Bool.false, Unit.unit)))), Unit.unit)) (List.nil)) (List.cons ((ByteArray.mk (List.toArray (List.cons (111 : UInt8) (List.cons (112 : UInt8) (List.cons (101 : UInt8) (List.cons (110 : UInt8) (List.nil))))))), (((3 : Int), ((0 : Int), ((ByteArray.mk (List.toArray (List.nil))), ((Decidable.decide (Eq x6.1.1 (1 : Int))), Unit.unit)))), Unit.unit)) (List.nil))), Unit.unit), (x6.2.1, Unit.unit))))) (Option.some (((List.cons ((ByteArray.mk (List.toArray (List.cons (110 : UInt8) (List.cons (97 : UInt8) (List.cons (109 : UInt8) (List.cons (101 : UInt8) (List.nil))))))), (((2 : Int), ((0 : Int), (x4, (Bool.false, Unit.unit)))), Unit.unit)) (List.nil)), Unit.unit), (x5.2.1, Unit.unit)))))))) (Option.none)))) (Option.bind (r40 ((3 : Int), Unit.unit) (x2.2.1, Unit.unit)) (fun x3 => (cond (Decidable.decide (LT.lt (1 : Int) x3.1.1)) (Option.bind (r40 ((2 : Int), Unit.unit) (x3.2.1, Unit.unit)) (fun x4 => (Option.some (((List.cons ((ByteArray.mk (List.toArray (List.cons (111 : UInt8) (List.cons (112 : UInt8) (List.cons (101 : UInt8) (List.cons (110 : UInt8) (List.nil))))))), (((3 : Int), ((0 : Int), ((ByteArray.mk (List.toArray (List.nil))), ((Decidable.decide (Eq x4.1.1 (1 : Int))), Unit.unit)))), Unit.unit)) (List.nil)), Unit.unit), (x4.2.1, Unit.unit))))) (Option.some (((List.nil), Unit.unit), (x3.2.1, Unit.unit)))))))))))))))
theorem r53_ok : SpecOk Go.Proofs.Try.prog 0 (fun _ => True) 53 (memSpec [.ptr 0 0] [(0, [.lf (.slice (.int .i64))])] [(0, [.lf (.slice (.int .i64))])] [(.slice (.pair .str (.pair (.pair (.int .i64) (.pair (.int .i64) (.pair .str (.pair .bool .unit)))) .unit)))] r53) :=
  memSpec_ok (F := specOf [(40, memSpec [.ptr 0 0, .dat (.int .i64)] [(0, [.lf (.slice (.int .i64))])] [(0, [.lf (.slice (.int .i64))])] [(.int .i64)] r40)]) (hs := hintOf []) stays_triv (specOf_cons r40_ok specOf_nil) mixed Go.Proofs.Try.func53 rfl (by kernel_rfl) (by kernel_rfl) (fun _ _ => by kernel_rfl)

/-- terrier/terrmake.feature -/
noncomputable def r41 (x : (kdP [(.int .i64)]).T) (d : (kdL [.lf (.slice (.int .i64))]).T) : Option ((kdP [(.pair (.int .i64) (.pair (.int .i64) (.pair (.slice (.slice (.pair (.int .i64) (.pair (.int .i64) .unit)))) (.pair (.slice (.pair .str (.pair (.pair (.int .i64) (.pair (.int .i64) (.pair .str (.pair .bool .unit)))) .unit))) (.pair (.int .i64) (.pair (.int .i64) .unit))))))]).T × (kdL [.lf (.slice (.int .i64))]).T) :=
  (Option.bind (r40 ((3 : Int), Unit.unit) (d.1, Unit.unit)) (fun x0 => (Option.bind (r40 ((20 : Int), Unit.unit) (x0.2.1, Unit.unit)) (fun x1 => (Option.bind (r40 ((40 : Int), Unit.unit) (x1.2.1, Unit.unit)) (fun x2 => (cond (Decidable.decide (Eq (IntKind.wrap IntKind.i64 (HAdd.hAdd (1 : Int) x0.1.1)) (1 : Int))) (Option.bind (r40 ((3 : Int), Unit.unit) (x2.2.1, Unit.unit)) (fun x3 => (Option.bind (loop (D := (Prod (Kd.T (.pair (.int .i64) (.pair (.int .i64) (.pair (.int .i64) (.pair (.slice (.slice (.pair (.int .i64) (.pair (.int .i64) .unit)))) (.pair .unit (.pair (.int .i64) (.pair (.int .i64) (.pair (.slice (.int .i64)) .unit))))))))) (Kd.T .unit))) (O := (Sum (Kd.T (.pair (.pair (.int .i64) (.pair (.int .i64) (.pair (.slice (.slice (.pair (.int .i64) (.pair (.int .i64) .unit)))) (.pair .unit (.pair (.int .i64) (.pair (.int .i64) (.pair (.slice (.int .i64)) .unit))))))) .unit)) (OutT (List.nil)))) (fun x4 => (cond (Decidable.decide (LT.lt x4.1.1 (IntKind.wrap IntKind.i64 (HAdd.hAdd (1 : Int) x3.1.1)))) (Option.bind (r50 Unit.unit (x4.1.2.2.2.2.2.2.2.1, Unit.unit)) (fun x5 => (cond (fits (HAdd.hAdd (List.length x4.1.2.2.2.1) (List.length (List.cons (List.cons (x5.1.1.1, (x5.1.1.2.1, Unit.unit)) (List.nil)) (List.nil)))) 24) (Option.some (Sum.inl (((IntKind.wrap IntKind.i64 (HAdd.hAdd x4.1.1 (1 : Int))), (x4.1.2.1, (x4.1.2.2.1, ((HAppend.hAppend x4.1.2.2.2.1 (List.cons (List.cons (x5.1.1.1, (x5.1.1.2.1, Unit.unit)) (List.nil)) (List.nil))), (Unit.unit, (x4.1.2.2.2.2.2.1, (x4.1.2.2.2.2.2.2.1, (x5.2.1, Unit.unit)))))))), Unit.unit))) (Option.none)))) (Option.some (Sum.inr (Sum.inl ((x4.1.2.1, (x4.1.2.2.1, (x4.1.2.2.2.1, (Unit.unit, (x4.1.2.2.2.2.2.1, (x4.1.2.2.2.2.2.2.1, (x4.1.2.2.2.2.2.2.2.1, Unit.unit))))))), Unit.unit)))))) (((0 : Int), (x.1, ((IntKind.wrap IntKind.i64 (HAdd.hAdd (1 : Int) x0.1.1)), ((List.nil), (Unit.unit, (x1.1.1, ((IntKind.wrap IntKind.i64 (HAdd.hAdd (IntKind.wrap IntKind.i64 (HAdd.hAdd x1.1.1 (1 : Int))) x2.1.1)), (x3.2.1, Unit.unit)))))))), Unit.unit)) (sumE (fun x4 => (Option.bind (r53 Unit.unit (x4.1.2.2.2.2.2.2.1, Unit.unit)) (fun x5 => (Option.some (((x4.1.1, (x4.1.2.1, (x4.1.2.2.1, (x5.1.1, (x4.1.2.2.2.2.1, (x4.1.2.2.2.2.2.1, Unit.unit)))))), Unit.unit), (x5.2.1, Unit.unit)))))) (emptyE))))) (cond (Decidable.decide (Eq (IntKind.wrap IntKind.i64 (HAdd.hAdd (1 : Int) x0.1.1)) (2 : Int))) (Option.bind (r40 ((2 : Int), Unit.unit) (x2.2.1, Unit.unit)) (fun x3 => (Option.bind (loop (D := (Prod (Kd.T (.pair (.int .i64) (.pair (.int .i64) (.pair (.int .i64) (.pair (.slice (.slice (.pair (.int .i64) (.pair (.int .i64) .unit)))) (.pair .unit (.pair (.int .i64) (.pair (.int .i64) (.pair (.slice (.int .i64)) .unit))))))))) (Kd.T .unit))) (O := (Sum (Kd.T (.pair (.pair (.int .i64) (.pair (.int .i64) (.pair (.slice (.slice (.pair (.int .i64) (.pair (.int .i64) .unit)))) (.pair .unit (.pair (.int .i64) (.pair (.int .i64) (.pair (.slice (.int .i64)) .unit))))))) .unit)) (OutT (List.nil)))) (fun x4 => (cond (Decidable.decide (LT.lt x4.1.1 (IntKind.wrap IntKind.i64 (HAdd.hAdd (1 : Int) x3.1.1)))) (Option.bind (r40 ((4 : Int), Unit.unit) (x4.1.2.2.2.2.2.2.2.1, Unit.unit)) (fun x5 => (Option.bind (r51 ((IntKind.wrap IntKind.i64 (HAdd.hAdd (2 : Int) x5.1.1)), Unit.unit) (x5.2.1, Unit.unit)) (fun x6 => (cond (fits (HAdd.hAdd (List.length x4.1.2.2.2.1) (List.length (List.cons x6.1.1 (List.nil)))) 24) (Option.some (Sum.inl (((IntKind.wrap IntKind.i64 (HAdd.hAdd x4.1.1 (1 : Int))), (x4.1.2.1, (x4.1.2.2.1, ((HAppend.hAppend x4.1.2.2.2.1 (List.cons x6.1.1 (List.nil))), (Unit.unit, (x4.1.2.2.2.2.2.1, (x4.1.2.2.2.2.2.2.1, (x6.2.1, Unit.unit)))))))), Unit.unit))) (Option.none)))))) (Option.some (Sum.inr (Sum.inl ((x4.1.2.1, (x4.1.2.2.1, (x4.1.2.2.2.1, (Unit.unit, (x4.1.2.2.2.2.2.1, (x4.1.2.2.2.2.2.2.1, (x4.1.2.2.2.2.2.2.2.1, Unit.unit))))))), Unit.unit)))))) (((0 : Int), (x.1, ((IntKind.wrap IntKind.i64 (HAdd.hAdd (1 : Int) x0.1.1)), ((List.nil), (Unit.unit, (x1.1.1, ((IntKind.wrap IntKind.i64 (HAdd.hAdd (IntKind.wrap IntKind.i64 (HAdd.hAdd x1.1.1 (1 : Int))) x2.1.1)), (x3.2.1, Unit.unit)))))))), Unit.unit)) (sumE (fun x4 => (Option.bind (r53 Unit.unit (x4.1.2.2.2.2.2.2.1, Unit.unit)) (fun x5 => (Option.some (((x4.1.1, (x4.1.2.1, (x4.1.2.2.1, (x5.1.1, (x4.1.2.2.2.2.1, (x4.1.2.2.2.2.2.1, Unit.unit)))))), Unit.unit), (x5.2.1, Unit.unit)))))) (emptyE))))) (cond (upTo (minI (Nat.cast (List.length x2.2.1) : Int) (8 : Int)) (Nat.cast (List.length x2.2.1) : Int)) (Option.bind (r52 ((List.take (Int.toNat (minI (Nat.cast (List.length x2.2.1) : Int) (8 : Int))) x2.2.1), Unit.unit)) (fun x3 => (cond (upTo (minI (Nat.cast (List.length x2.2.1) : Int) (8 : Int)) (Nat.cast (List.length x2.2.1) : Int)) (Option.bind (r53 Unit.unit ((List.drop (Int.toNat (minI (Nat.cast (List.length x2.2.1) : Int) (8 : Int))) x2.2.1), Unit.unit)) (fun x4 => (Option.some (((x.1, ((IntKind.wrap IntKind.i64 (HAdd.hAdd (1 : Int) x0.1.1)), (x3.1, (x4.1.1, (x1.1.1, ((IntKind.wrap IntKind.i64 (HAdd.hAdd (IntKind.wrap IntKind.i64 (HAdd.hAdd x1.1.1 (1 : Int))) x2.1.1)), Unit.unit)))))), Unit.unit), (x4.2.1, Unit.unit))))) (Option.none)))) (Option.none))))))))))
theorem r41_ok : SpecOk Go.Proofs.Try.prog 0 (fun _ => True) 41 (memSpec [.dat (.int .i64), .ptr 0 0] [(0, [.lf (.slice (.int .i64))])] [(0, [.lf (.slice (.int .i64))])] [(.pair (.int .i64) (.pair (.int .i64) (.pair (.slice (.slice (.pair (.int .i64) (.pair (.int .i64) .unit)))) (.pair (.slice (.pair .str (.pair (.pair (.int .i64) (.pair (.int .i64) (.pair .str (.pair .bool .unit)))) .unit))) (.pair (.int .i64) (.pair (.int .i64) .unit))))))] r41) :=
  memSpec_ok (F := specOf [(40, memSpec [.ptr 0 0, .dat (.int .i64)] [(0, [.lf (.slice (.int .i64))])] [(0, [.lf (.slice (.int .i64))])] [(.int .i64)] r40), (50, memSpec [.ptr 0 0] [(0, [.lf (.slice (.int .i64))])] [(0, [.lf (.slice (.int .i64))])] [(.pair (.int .i64) (.pair (.int .i64) .unit))] r50), (51, memSpec [.ptr 0 0, .dat (.int .i64)] [(0, [.lf (.slice (.int .i64))])] [(0, [.lf (.slice (.int .i64))])] [(.slice (.pair (.int .i64) (.pair (.int .i64) .unit)))] r51), (52, pureSpec [(.slice (.int .i64))] [(.slice (.slice (.pair (.int .i64) (.pair (.int .i64) .unit))))] r52), (53, memSpec [.ptr 0 0] [(0, [.lf (.slice (.int .i64))])] [(0, [.lf (.slice (.int .i64))])] [(.slice (.pair .str (.pair (.pair (.int .i64) (.pair (.int .i64) (.pair .str (.pair .bool .unit)))) .unit)))] r53)]) (hs := hintOf [(3, ⟨⟨[(67, .lf (.int .i64))], [(640, [.lf (.int .i64), .lf (.int .i64), .own (.slice (.pair (.int .i64) (.pair (.int .i64) .unit))), .nils, .lf (.int .i64), .lf (.int .i64)]), (0, [.lf (.slice (.int .i64))])], []⟩, [((.exit 3), ⟨[], [(640, [.lf (.int .i64), .lf (.int .i64), .own (.slice (.pair (.int .i64) (.pair (.int .i64) .unit))), .nils, .lf (.int .i64), .lf (.int .i64)]), (0, [.lf (.slice (.int .i64))])], []⟩)]⟩), (1, ⟨⟨[(51, .lf (.int .i64))], [(640, [.lf (.int .i64), .lf (.int .i64), .own (.slice (.pair (.int .i64) (.pair (.int .i64) .unit))), .nils, .lf (.int .i64), .lf (.int .i64)]), (0, [.lf (.slice (.int .i64))])], []⟩, [((.exit 1), ⟨[], [(640, [.lf (.int .i64), .lf (.int .i64), .own (.slice (.pair (.int .i64) (.pair (.int .i64) .unit))), .nils, .lf (.int .i64), .lf (.int .i64)]), (0, [.lf (.slice (.int .i64))])], []⟩)]⟩)]) stays_triv (specOf_cons r40_ok (specOf_cons r50_ok (specOf_cons r51_ok (specOf_cons (PureOk.spec r52_ok) (specOf_cons r53_ok specOf_nil))))) mixed Go.Proofs.Try.func41 rfl (by kernel_rfl) (by kernel_rfl) (fun _ _ => by kernel_rfl)

/-- terrier/terrmake.Survey -/
noncomputable def r28 (x : (kdP [(.slice (.int .i64))]).T) : Option (kdP [(.slice (.pair (.int .i64) (.pair (.int .i64) (.pair (.slice (.slice (.pair (.int .i64) (.pair (.int .i64) .unit)))) (.pair (.slice (.pair .str (.pair (.pair (.int .i64) (.pair (.int .i64) (.pair .str (.pair .bool .unit)))) .unit))) (.pair (.int .i64) (.pair (.int .i64) .unit)))))))]).T :=
  (Option.bind (r40 ((7 : Int), Unit.unit) (x.1, Unit.unit)) (fun x0 => (Option.bind (loop (D := (Prod (Kd.T (.pair (.int .i64) (.pair (.slice (.pair (.int .i64) (.pair (.int .i64) (.pair (.slice (.slice (.pair (.int .i64) (.pair (.int .i64) .unit)))) (.pair (.slice (.pair .str (.pair (.pair (.int .i64) (.pair (.int .i64) (.pair .str (.pair .bool .unit)))) .unit))) (.pair (.int .i64) (.pair (.int .i64) .unit))))))) (.pair (.int .i64) (.pair (.slice (.int .i64)) .unit))))) (Kd.T .unit))) (O := (Sum (Kd.T (.pair (.pair (.slice (.pair (.int .i64) (.pair (.int .i64) (.pair (.slice (.slice (.pair (.int .i64) (.pair (.int .i64) .unit)))) (.pair (.slice (.pair .str (.pair (.pair (.int .i64) (.pair (.int .i64) (.pair .str (.pair .bool .unit)))) .unit))) (.pair (.int .i64) (.pair (.int .i64) .unit))))))) (.pair (.slice (.int .i64)) .unit)) .unit)) (OutT (List.nil)))) (fun x1 => (cond (Decidable.decide (LT.lt x1.1.2.2.1 x0.1.1)) (Option.bind (r40 ((3 : Int), Unit.unit) (x1.1.2.2.2.1, Unit.unit)) (fun x2 => (Option.bind (r41 ((IntKind.wrap IntKind.i64 (HAdd.hAdd x1.1.1 (IntKind.wrap IntKind.i64 (HAdd.hAdd (1 : Int) x2.1.1)))), Unit.unit) (x2.2.1, Unit.unit)) (fun x3 => (cond (fits (HAdd.hAdd (List.length x1.1.2.1) (List.length (List.cons (x3.1.1.1, (x3.1.1.2.1, (x3.1.1.2.2.1, (x3.1.1.2.2.2.1, (x3.1.1.2.2.2.2.1, (x3.1.1.2.2.2.2.2.1, Unit.unit)))))) (List.nil)))) 80) (Option.some (Sum.inl (((IntKind.wrap IntKind.i64 (HAdd.hAdd x1.1.1 (IntKind.wrap IntKind.i64 (HAdd.hAdd (1 : Int) x2.1.1)))), ((HAppend.hAppend x1.1.2.1 (List.cons (x3.1.1.1, (x3.1.1.2.1, (x3.1.1.2.2.1, (x3.1.1.2.2.2.1, (x3.1.1.2.2.2.2.1, (x3.1.1.2.2.2.2.2.1, Unit.unit)))))) (List.nil))), ((IntKind.wrap IntKind.i64 (HAdd.hAdd x1.1.2.2.1 (1 : Int))), (x3.2.1, Unit.unit)))), Unit.unit))) (Option.none)))))) (Option.some (Sum.inr (Sum.inl ((x1.1.2.1, (x1.1.2.2.2.1, Unit.unit)), Unit.unit)))))) (((0 : Int), ((List.nil), ((0 : Int), (x0.2.1, Unit.unit)))), Unit.unit)) (sumE (fun x1 => (Option.some (x1.1.1, Unit.unit))) (emptyE)))))
theorem r28_ok : PureOk Go.Proofs.Try.prog 0 (fun _ => True) 28 [(.slice (.int .i64))] [(.slice (.pair (.int .i64) (.pair (.int .i64) (.pair (.slice (.slice (.pair (.int .i64) (.pair (.int .i64) .unit)))) (.pair (.slice (.pair .str (.pair (.pair (.int .i64) (.pair (.int .i64) (.pair .str (.pair .bool .unit)))) .unit))) (.pair (.int .i64) (.pair (.int .i64) .unit)))))))] r28 :=
  pureOk_of_run (F := specOf [(40, memSpec [.ptr 0 0, .dat (.int .i64)] [(0, [.lf (.slice (.int .i64))])] [(0, [.lf (.slice (.int .i64))])] [(.int .i64)] r40), (41, memSpec [.dat (.int .i64), .ptr 0 0] [(0, [.lf (.slice (.int .i64))])] [(0, [.lf (.slice (.int .i64))])] [(.pair (.int .i64) (.pair (.int .i64) (.pair (.slice (.slice (.pair (.int .i64) (.pair (.int .i64) .unit)))) (.pair (.slice (.pair .str (.pair (.pair (.int .i64) (.pair (.int .i64) (.pair .str (.pair .bool .unit)))) .unit))) (.pair (.int .i64) (.pair (.int .i64) .unit))))))] r41)]) (hs := hintOf [(0, ⟨⟨[(5, .lf (.int .i64)), (4, .own (.pair (.int .i64) (.pair (.int .i64) (.pair (.slice (.slice (.pair (.int .i64) (.pair (.int .i64) .unit)))) (.pair (.slice (.pair .str (.pair (.pair (.int .i64) (.pair (.int .i64) (.pair .str (.pair .bool .unit)))) .unit))) (.pair (.int .i64) (.pair (.int .i64) .unit))))))), (11, .lf (.int .i64))], [(192, [.lf (.slice (.int .i64))])], []⟩, [((.exit 0), ⟨[(4, .own (.pair (.int .i64) (.pair (.int .i64) (.pair (.slice (.slice (.pair (.int .i64) (.pair (.int .i64) .unit)))) (.pair (.slice (.pair .str (.pair (.pair (.int .i64) (.pair (.int .i64) (.pair .str (.pair .bool .unit)))) .unit))) (.pair (.int .i64) (.pair (.int .i64) .unit)))))))], [(192, [.lf (.slice (.int .i64))])], []⟩)]⟩)]) stays_triv (specOf_cons r40_ok (specOf_cons r41_ok specOf_nil)) mixed Go.Proofs.Try.func28 rfl (by kernel_rfl) (fun _ => by kernel_rfl)

/-- terrier/feat.Parts$1 -/
noncomputable def r55 (x : (kdP [(.slice (.pair (.int .i64) (.pair (.int .i64) .unit)))]).T) : Option (kdP [.bool]).T :=
  (Option.some ((Decidable.decide (LT.lt (200 : Int) (Nat.cast (List.length x.1) : Int))), Unit.unit))
theorem r55_ok : PureOk Go.Proofs.Try.prog 0 (fun _ => True) 55 [(.slice (.pair (.int .i64) (.pair (.int .i64) .unit)))] [.bool] r55 :=
  pureOk_of_run (F := specOf []) (hs := hintOf []) stays_triv specOf_nil mixed Go.Proofs.Try.func55 rfl (by kernel_rfl) (fun _ => by kernel_rfl)

/-- slices.IndexFunc[[][]terrier/api.Point,[]terrier/api.Point] -/
noncomputable def r62_55 (x : (kdP [(.slice (.slice (.pair (.int .i64) (.pair (.int .i64) .unit)))), (.fn 55)]).T) : Option (kdP [(.int .i64)]).T :=
  (Option.bind (loop (D := (Prod (Kd.T (.pair (.int .i64) .unit)) (Kd.T .unit))) (O := (Sum (Kd.T (.pair (.pair (.int .i64) .unit) .unit)) (OutT (List.cons ((Ex3.exit 0), (Sh.mk (List.nil) (List.nil) (List.nil))) (List.nil))))) (fun x0 => (cond (Decidable.decide (LT.lt x0.1.1 (Nat.cast (List.length x.1) : Int))) (cond (inB x0.1.1 (List.length x.1)) (Option.bind (GetElem?.getElem? x.1 (Int.toNat x0.1.1)) (fun x1 => (Option.bind (r55 (x1, Unit.unit)) (fun x2 => (cond x2.1 (Option.some (Sum.inr (Sum.inl ((x0.1.1, Unit.unit), Unit.unit)))) (Option.some (Sum.inl (((IntKind.wrap IntKind.i64 (HAdd.hAdd x0.1.1 (1 : Int))), Unit.unit), Unit.unit)))))))) (Option.none)) (Option.some (Sum.inr (Sum.inr (Sum.inl (Unit.unit, Unit.unit))))))) (((0 : Int), Unit.unit), Unit.unit)) (sumE (fun x0 => (Option.some (x0.1.1, Unit.unit))) (sumE (fun x0 => (Option.some ((Neg.neg (1 : Int)), Unit.unit))) (emptyE))))
theorem r62_55_ok : PureOk Go.Proofs.Try.prog 0 (fun _ => True) 62 [(.slice (.slice (.pair (.int .i64) (.pair (.int .i64) .unit)))), (.fn 55)] [(.int .i64)] r62_55 :=
  pureOk_of_run (F := specOf [(55, pureSpec [(.slice (.pair (.int .i64) (.pair (.int .i64) .unit)))] [.bool] r55)]) (hs := hintOf [(0, ⟨⟨[(8, .lf (.int .i64))], [], []⟩, [(.ret, ⟨[(4, .lf (.int .i64))], [], []⟩), ((.exit 0), ⟨[], [], []⟩)]⟩)]) stays_triv (specOf_cons (PureOk.spec r55_ok) specOf_nil) mixed Go.Proofs.Try.func62 rfl (by kernel_rfl) (fun _ => by kernel_rfl)

/-- slices.ContainsFunc[[][]terrier/api.Point,[]terrier/api.Point] -/
noncomputable def r54_55 (x : (kdP [(.slice (.slice (.pair (.int .i64) (.pair (.int .i64) .unit)))), (.fn 55)]).T) : Option (kdP [.bool]).T :=
  (Option.bind (r62_55 (x.1, (Unit.unit, Unit.unit))) (fun x0 => (Option.some ((Decidable.decide (LE.le (0 : Int) x0.1)), Unit.unit))))
theorem r54_55_ok : PureOk Go.Proofs.Try.prog 0 (fun _ => True) 54 [(.slice (.slice (.pair (.int .i64) (.pair (.int .i64) .unit)))), (.fn 55)] [.bool] r54_55 :=
  pureOk_of_run (F := specOf [(62, pickS [([55], pureSpec [(.slice (.slice (.pair (.int .i64) (.pair (.int .i64) .unit)))), (.fn 55)] [(.int .i64)] r62_55)])]) (hs := hintOf []) stays_triv (specOf_cons (pickS_one (PureOk.spec r62_55_ok)) specOf_nil) mixed Go.Proofs.Try.func54 rfl (by kernel_rfl) (fun _ => by kernel_rfl)

/-- terrier/point.limit -/
noncomputable def r75 (x : (kdP [(.int .i64), (.int .i64)]).T) : Option (kdP [(.int .i64)]).T :=
  (Option.some ((maxI (IntKind.wrap IntKind.i64 (HSub.hSub (0 : Int) x.2.1)) (minI x.1 x.2.1)), Unit.unit))
theorem r75_ok : PureOk Go.Proofs.Try.prog 0 (fun _ => True) 75 [(.int .i64), (.int .i64)] [(.int .i64)] r75 :=
  pureOk_of_run (F := specOf []) (hs := hintOf []) stays_triv specOf_nil mixed Go.Proofs.Try.func75 rfl (by kernel_rfl) (fun _ => by kernel_rfl)

/-- terrier/point.Clamp -/
noncomputable def r70 (x : (kdP [(.pair (.int .i64) (.pair (.int .i64) .unit))]).T) : Option (kdP [(.pair (.int .i64) (.pair (.int .i64) .unit))]).T :=
  (Option.bind (r75 (x.1.1, ((1048576 : Int), Unit.unit))) (fun x0 => (Option.bind (r75 (x.1.2.1, ((1048576 : Int), Unit.unit))) (fun x1 => (Option.some ((x0.1, (x1.1, Unit.unit)), Unit.unit))))))
theorem r70_ok : PureOk Go.Proofs.Try.prog 0 (fun _ => True) 70 [(.pair (.int .i64) (.pair (.int .i64) .unit))] [(.pair (.int .i64) (.pair (.int .i64) .unit))] r70 :=
  pureOk_of_run (F := specOf [(75, pureSpec [(.int .i64), (.int .i64)] [(.int .i64)] r75)]) (hs := hintOf []) stays_triv (specOf_cons (PureOk.spec r75_ok) specOf_nil) mixed Go.Proofs.Try.func70 rfl (by kernel_rfl) (fun _ => by kernel_rfl)

/-- terrier/point.Ok -/
noncomputable def r65 (x : (kdP [(.pair (.int .i64) (.pair (.int .i64) .unit))]).T) : Option (kdP [.bool]).T :=
  (Option.bind (r70 ((x.1.1, (x.1.2.1, Unit.unit)), Unit.unit)) (fun x0 => (Option.some ((Bool.and (Decidable.decide (Eq x.1.1 x0.1.1)) (Decidable.decide (Eq x.1.2.1 x0.1.2.1))), Unit.unit))))
theorem r65_ok : PureOk Go.Proofs.Try.prog 0 (fun _ => True) 65 [(.pair (.int .i64) (.pair (.int .i64) .unit))] [.bool] r65 :=
  pureOk_of_run (F := specOf [(70, pureSpec [(.pair (.int .i64) (.pair (.int .i64) .unit))] [(.pair (.int .i64) (.pair (.int .i64) .unit))] r70)]) (hs := hintOf []) stays_triv (specOf_cons (PureOk.spec r70_ok) specOf_nil) mixed Go.Proofs.Try.func65 rfl (by kernel_rfl) (fun _ => by kernel_rfl)

/-- terrier/feat.points$1 -/
noncomputable def r64 (x : (kdP [(.pair (.int .i64) (.pair (.int .i64) .unit))]).T) : Option (kdP [.bool]).T :=
  (Option.bind (r65 ((x.1.1, (x.1.2.1, Unit.unit)), Unit.unit)) (fun x0 => (Option.some ((Bool.not x0.1), Unit.unit))))
theorem r64_ok : PureOk Go.Proofs.Try.prog 0 (fun _ => True) 64 [(.pair (.int .i64) (.pair (.int .i64) .unit))] [.bool] r64 :=
  pureOk_of_run (F := specOf [(65, pureSpec [(.pair (.int .i64) (.pair (.int .i64) .unit))] [.bool] r65)]) (hs := hintOf []) stays_triv (specOf_cons (PureOk.spec r65_ok) specOf_nil) mixed Go.Proofs.Try.func64 rfl (by kernel_rfl) (fun _ => by kernel_rfl)

/-- slices.IndexFunc[[]terrier/api.Point,terrier/api.Point] -/
noncomputable def r69_64 (x : (kdP [(.slice (.pair (.int .i64) (.pair (.int .i64) .unit))), (.fn 64)]).T) : Option (kdP [(.int .i64)]).T :=
  (Option.bind (loop (D := (Prod (Kd.T (.pair (.int .i64) .unit)) (Kd.T .unit))) (O := (Sum (Kd.T (.pair (.pair (.int .i64) .unit) .unit)) (OutT (List.cons ((Ex3.exit 0), (Sh.mk (List.nil) (List.nil) (List.nil))) (List.nil))))) (fun x0 => (cond (Decidable.decide (LT.lt x0.1.1 (Nat.cast (List.length x.1) : Int))) (cond (inB x0.1.1 (List.length x.1)) (Option.bind (GetElem?.getElem? x.1 (Int.toNat x0.1.1)) (fun x1 => (Option.bind (r64 ((x1.1, (x1.2.1, Unit.unit)), Unit.unit)) (fun x2 => (cond x2.1 (Option.some (Sum.inr (Sum.inl ((x0.1.1, Unit.unit), Unit.unit)))) (Option.some (Sum.inl (((IntKind.wrap IntKind.i64 (HAdd.hAdd x0.1.1 (1 : Int))), Unit.unit), Unit.unit)))))))) (Option.none)) (Option.some (Sum.inr (Sum.inr (Sum.inl (Unit.unit, Unit.unit))))))) (((0 : Int), Unit.unit), Unit.unit)) (sumE (fun x0 => (Option.some (x0.1.1, Unit.unit))) (sumE (fun x0 => (Option.some ((Neg.neg (1 : Int)), Unit.unit))) (emptyE))))
theorem r69_64_ok : PureOk Go.Proofs.Try.prog 0 (fun _ => True) 69 [(.slice (.pair (.int .i64) (.pair (.int .i64) .unit))), (.fn 64)] [(.int .i64)] r69_64 :=
  pureOk_of_run (F := specOf [(64, pureSpec [(.pair (.int .i64) (.pair (.int .i64) .unit))] [.bool] r64)]) (hs := hintOf [(0, ⟨⟨[(8, .lf (.int .i64))], [], []⟩, [(.ret, ⟨[(4, .lf (.int .i64))], [], []⟩), ((.exit 0), ⟨[], [], []⟩)]⟩)]) stays_triv (specOf_cons (PureOk.spec r64_ok) specOf_nil) mixed Go.Proofs.Try.func69 rfl (by kernel_rfl) (fun _ => by kernel_rfl)

/-- slices.ContainsFunc[[]terrier/api.Point,terrier/api.Point] -/
noncomputable def r63_64 (x : (kdP [(.slice (.pair (.int .i64) (.pair (.int .i64) .unit))), (.fn 64)]).T) : Option (kdP [.bool]).T :=
  (Option.bind (r69_64 (x.1, (Unit.unit, Unit.unit))) (fun x0 => (Option.some ((Decidable.decide (LE.le (0 : Int) x0.1)), Unit.unit))))
theorem r63_64_ok : PureOk Go.Proofs.Try.prog 0 (fun _ => True) 63 [(.slice (.pair (.int .i64) (.pair (.int .i64) .unit))), (.fn 64)] [.bool] r63_64 :=
  pureOk_of_run (F := specOf [(69, pickS [([64], pureSpec [(.slice (.pair (.int .i64) (.pair (.int .i64) .unit))), (.fn 64)] [(.int .i64)] r69_64)])]) (hs := hintOf []) stays_triv (specOf_cons (pickS_one (PureOk.spec r69_64_ok)) specOf_nil) mixed Go.Proofs.Try.func63 rfl (by kernel_rfl) (fun _ => by kernel_rfl)

/-- terrier/feat.points -/
noncomputable def r56 (x : (kdP [(.int .i64), (.slice (.pair (.int .i64) (.pair (.int .i64) .unit)))]).T) : Option (kdP [(.int .i64)]).T :=
  (Option.bind (r63_64 (x.2.1, (Unit.unit, Unit.unit))) (fun x0 => (cond x0.1 (Option.some ((1 : Int), Unit.unit)) (cond (Decidable.decide (Eq x.1 (1 : Int))) (cond (Bool.not (Decidable.decide (Eq (Nat.cast (List.length x.2.1) : Int) (1 : Int)))) (Option.some ((3 : Int), Unit.unit)) (Option.some ((0 : Int), Unit.unit))) (cond (Decidable.decide (Eq x.1 (2 : Int))) (cond (Decidable.decide (LT.lt (Nat.cast (List.length x.2.1) : Int) (2 : Int))) (Option.some ((3 : Int), Unit.unit)) (Option.bind (loop (D := (Prod (Kd.T (.pair (.int .i64) .unit)) (Kd.T .unit))) (O := (Sum (Kd.T (.pair (.pair (.int .i64) .unit) .unit)) (OutT (List.cons ((Ex3.exit 1), (Sh.mk (List.nil) (List.nil) (List.nil))) (List.nil))))) (fun x1 => (cond (Decidable.decide (LT.lt x1.1.1 (Nat.cast (List.length x.2.1) : Int))) (cond (inB x1.1.1 (List.length x.2.1)) (Option.bind (GetElem?.getElem? x.2.1 (Int.toNat x1.1.1)) (fun x2 => (cond (inB (IntKind.wrap IntKind.i64 (HSub.hSub x1.1.1 (1 : Int))) (List.length x.2.1)) (Option.bind (GetElem?.getElem? x.2.1 (Int.toNat (IntKind.wrap IntKind.i64 (HSub.hSub x1.1.1 (1 : Int))))) (fun x3 => (cond (Bool.and (Decidable.decide (Eq x2.1 x3.1)) (Decidable.decide (Eq x2.2.1 x3.2.1))) (Option.some (Sum.inr (Sum.inl (((3 : Int), Unit.unit), Unit.unit)))) (Option.some (Sum.inl (((IntKind.wrap IntKind.i64 (HAdd.hAdd x1.1.1 (1 : Int))), Unit.unit), Unit.unit)))))) (Option.none)))) (Option.none)) (Option.some (Sum.inr (Sum.inr (Sum.inl (Unit.unit, Unit.unit))))))) (((1 : Int), Unit.unit), Unit.unit)) (sumE (fun x1 => (Option.some (x1.1.1, Unit.unit))) (sumE (fun x1 => (Option.some ((0 : Int), Unit.unit))) (emptyE))))) (Option.some ((0 : Int), Unit.unit)))))))
theorem r56_ok : PureOk Go.Proofs.Try.prog 0 (fun _ => True) 56 [(.int .i64), (.slice (.pair (.int .i64) (.pair (.int .i64) .unit)))] [(.int .i64)] r56 :=
  pureOk_of_run (F := specOf [(63, pickS [([64], pureSpec [(.slice (.pair (.int .i64) (.pair (.int .i64) .unit))), (.fn 64)] [.bool] r63_64)])]) (hs := hintOf [(1, ⟨⟨[(5, .lf (.int .i64))], [], []⟩, [(.ret, ⟨[(4, .lf (.int .i64))], [], []⟩), ((.exit 1), ⟨[], [], []⟩)]⟩)]) stays_triv (specOf_cons (pickS_one (PureOk.spec r63_64_ok)) specOf_nil) mixed Go.Proofs.Try.func56 rfl (by kernel_rfl) (fun _ => by kernel_rfl)

/-- terrier/ring.Check$1 -/
noncomputable def r71 (x : (kdP [(.pair (.int .i64) (.pair (.int .i64) .unit))]).T) : Option (kdP [.bool]).T :=
  (Option.bind (r65 ((x.1.1, (x.1.2.1, Unit.unit)), Unit.unit)) (fun x0 => (Option.some ((Bool.not x0.1), Unit.unit))))
theorem r71_ok : PureOk Go.Proofs.Try.prog 0 (fun _ => True) 71 [(.pair (.int .i64) (.pair (.int .i64) .unit))] [.bool] r71 :=
  pureOk_of_run (F := specOf [(65, pureSpec [(.pair (.int .i64) (.pair (.int .i64) .unit))] [.bool] r65)]) (hs := hintOf []) stays_triv (specOf_cons (PureOk.spec r65_ok) specOf_nil) mixed Go.Proofs.Try.func71 rfl (by kernel_rfl) (fun _ => by kernel_rfl)

/-- slices.IndexFunc[[]terrier/api.Point,terrier/api.Point] -/
noncomputable def r69_71 (x : (kdP [(.slice (.pair (.int .i64) (.pair (.int .i64) .unit))), (.fn 71)]).T) : Option (kdP [(.int .i64)]).T :=
  (Option.bind (loop (D := (Prod (Kd.T (.pair (.int .i64) .unit)) (Kd.T .unit))) (O := (Sum (Kd.T (.pair (.pair (.int .i64) .unit) .unit)) (OutT (List.cons ((Ex3.exit 0), (Sh.mk (List.nil) (List.nil) (List.nil))) (List.nil))))) (fun x0 => (cond (Decidable.decide (LT.lt x0.1.1 (Nat.cast (List.length x.1) : Int))) (cond (inB x0.1.1 (List.length x.1)) (Option.bind (GetElem?.getElem? x.1 (Int.toNat x0.1.1)) (fun x1 => (Option.bind (r71 ((x1.1, (x1.2.1, Unit.unit)), Unit.unit)) (fun x2 => (cond x2.1 (Option.some (Sum.inr (Sum.inl ((x0.1.1, Unit.unit), Unit.unit)))) (Option.some (Sum.inl (((IntKind.wrap IntKind.i64 (HAdd.hAdd x0.1.1 (1 : Int))), Unit.unit), Unit.unit)))))))) (Option.none)) (Option.some (Sum.inr (Sum.inr (Sum.inl (Unit.unit, Unit.unit))))))) (((0 : Int), Unit.unit), Unit.unit)) (sumE (fun x0 => (Option.some (x0.1.1, Unit.unit))) (sumE (fun x0 => (Option.some ((Neg.neg (1 : Int)), Unit.unit))) (emptyE))))
theorem r69_71_ok : PureOk Go.Proofs.Try.prog 0 (fun _ => True) 69 [(.slice (.pair (.int .i64) (.pair (.int .i64) .unit))), (.fn 71)] [(.int .i64)] r69_71 :=
  pureOk_of_run (F := specOf [(71, pureSpec [(.pair (.int .i64) (.pair (.int .i64) .unit))] [.bool] r71)]) (hs := hintOf [(0, ⟨⟨[(8, .lf (.int .i64))], [], []⟩, [(.ret, ⟨[(4, .lf (.int .i64))], [], []⟩), ((.exit 0), ⟨[], [], []⟩)]⟩)]) stays_triv (specOf_cons (PureOk.spec r71_ok) specOf_nil) mixed Go.Proofs.Try.func69 rfl (by kernel_rfl) (fun _ => by kernel_rfl)

/-- slices.ContainsFunc[[]terrier/api.Point,terrier/api.Point] -/
noncomputable def r63_71 (x : (kdP [(.slice (.pair (.int .i64) (.pair (.int .i64) .unit))), (.fn 71)]).T) : Option (kdP [.bool]).T :=
  (Option.bind (r69_71 (x.1, (Unit.unit, Unit.unit))) (fun x0 => (Option.some ((Decidable.decide (LE.le (0 : Int) x0.1)), Unit.unit))))
theorem r63_71_ok : PureOk Go.Proofs.Try.prog 0 (fun _ => True) 63 [(.slice (.pair (.int .i64) (.pair (.int .i64) .unit))), (.fn 71)] [.bool] r63_71 :=
  pureOk_of_run (F := specOf [(69, pickS [([71], pureSpec [(.slice (.pair (.int .i64) (.pair (.int .i64) .unit))), (.fn 71)] [(.int .i64)] r69_71)])]) (hs := hintOf []) stays_triv (specOf_cons (pickS_one (PureOk.spec r69_71_ok)) specOf_nil) mixed Go.Proofs.Try.func63 rfl (by kernel_rfl) (fun _ => by kernel_rfl)

/-- terrier/point.way -/
noncomputable def r87 (x : (kdP [(.pair (.int .i64) (.pair (.int .i64) .unit)), (.pair (.int .i64) (.pair (.int .i64) .unit))]).T) : Option (kdP [(.pair (.int .i64) (.pair (.int .i64) .unit))]).T :=
  (Option.bind (r70 ((x.1.1, (x.1.2.1, Unit.unit)), Unit.unit)) (fun x0 => (Option.bind (r70 ((x.2.1.1, (x.2.1.2.1, Unit.unit)), Unit.unit)) (fun x1 => (Option.some (((IntKind.wrap IntKind.i64 (HSub.hSub x1.1.1 x0.1.1)), ((IntKind.wrap IntKind.i64 (HSub.hSub x1.1.2.1 x0.1.2.1)), Unit.unit)), Unit.unit))))))
theorem r87_ok : PureOk Go.Proofs.Try.prog 0 (fun _ => True) 87 [(.pair (.int .i64) (.pair (.int .i64) .unit)), (.pair (.int .i64) (.pair (.int .i64) .unit))] [(.pair (.int .i64) (.pair (.int .i64) .unit))] r87 :=
  pureOk_of_run (F := specOf [(70, pureSpec [(.pair (.int .i64) (.pair (.int .i64) .unit))] [(.pair (.int .i64) (.pair (.int .i64) .unit))] r70)]) (hs := hintOf []) stays_triv (specOf_cons (PureOk.spec r70_ok) specOf_nil) mixed Go.Proofs.Try.func87 rfl (by kernel_rfl) (fun _ => by kernel_rfl)

/-- terrier/point.Cross -/
noncomputable def r83 (x : (kdP [(.pair (.int .i64) (.pair (.int .i64) .unit)), (.pair (.int .i64) (.pair (.int .i64) .unit)), (.pair (.int .i64) (.pair (.int .i64) .unit))]).T) : Option (kdP [(.int .i64)]).T :=
  (Option.bind (r87 ((x.1.1, (x.1.2.1, Unit.unit)), ((x.2.1.1, (x.2.1.2.1, Unit.unit)), Unit.unit))) (fun x0 => (Option.bind (r87 ((x.1.1, (x.1.2.1, Unit.unit)), ((x.2.2.1.1, (x.2.2.1.2.1, Unit.unit)), Unit.unit))) (fun x1 => (Option.some ((IntKind.wrap IntKind.i64 (HSub.hSub (IntKind.wrap IntKind.i64 (HMul.hMul x0.1.1 x1.1.2.1)) (IntKind.wrap IntKind.i64 (HMul.hMul x0.1.2.1 x1.1.1)))), Unit.unit))))))
theorem r83_ok : PureOk Go.Proofs.Try.prog 0 (fun _ => True) 83 [(.pair (.int .i64) (.pair (.int .i64) .unit)), (.pair (.int .i64) (.pair (.int .i64) .unit)), (.pair (.int .i64) (.pair (.int .i64) .unit))] [(.int .i64)] r83 :=
  pureOk_of_run (F := specOf [(87, pureSpec [(.pair (.int .i64) (.pair (.int .i64) .unit)), (.pair (.int .i64) (.pair (.int .i64) .unit))] [(.pair (.int .i64) (.pair (.int .i64) .unit))] r87)]) (hs := hintOf []) stays_triv (specOf_cons (PureOk.spec r87_ok) specOf_nil) mixed Go.Proofs.Try.func83 rfl (by kernel_rfl) (fun _ => by kernel_rfl)

/-- cmp.isNaN[int] -/
noncomputable def r86 (x : (kdP [(.int .i64)]).T) : Option (kdP [.bool]).T :=
  (Option.some ((Bool.not (Decidable.decide (Eq x.1 x.1))), Unit.unit))
theorem r86_ok : PureOk Go.Proofs.Try.prog 0 (fun _ => True) 86 [(.int .i64)] [.bool] r86 :=
  pureOk_of_run (F := specOf []) (hs := hintOf []) stays_triv specOf_nil mixed Go.Proofs.Try.func86 rfl (by kernel_rfl) (fun _ => by kernel_rfl)

/-- cmp.Compare[int] -/
noncomputable def r82 (x : (kdP [(.int .i64), (.int .i64)]).T) : Option (kdP [(.int .i64)]).T :=
  (Option.bind (r86 (x.1, Unit.unit)) (fun x0 => (Option.bind (r86 (x.2.1, Unit.unit)) (fun x1 => (cond x0.1 (cond x1.1 (Option.some ((0 : Int), Unit.unit)) (Option.some ((Neg.neg (1 : Int)), Unit.unit))) (cond x1.1 (Option.some ((1 : Int), Unit.unit)) (cond (Decidable.decide (LT.lt x.1 x.2.1)) (Option.some ((Neg.neg (1 : Int)), Unit.unit)) (cond (Decidable.decide (LT.lt x.2.1 x.1)) (Option.some ((1 : Int), Unit.unit)) (Option.some ((0 : Int), Unit.unit))))))))))
theorem r82_ok : PureOk Go.Proofs.Try.prog 0 (fun _ => True) 82 [(.int .i64), (.int .i64)] [(.int .i64)] r82 :=
  pureOk_of_run (F := specOf [(86, pureSpec [(.int .i64)] [.bool] r86)]) (hs := hintOf []) stays_triv (specOf_cons (PureOk.spec r86_ok) specOf_nil) mixed Go.Proofs.Try.func82 rfl (by kernel_rfl) (fun _ => by kernel_rfl)

/-- terrier/point.Turn -/
noncomputable def r79 (x : (kdP [(.pair (.int .i64) (.pair (.int .i64) .unit)), (.pair (.int .i64) (.pair (.int .i64) .unit)), (.pair (.int .i64) (.pair (.int .i64) .unit))]).T) : Option (kdP [(.int .i64)]).T :=
  (Option.bind (r83 ((x.1.1, (x.1.2.1, Unit.unit)), ((x.2.1.1, (x.2.1.2.1, Unit.unit)), ((x.2.2.1.1, (x.2.2.1.2.1, Unit.unit)), Unit.unit)))) (fun x0 => (Option.bind (r82 (x0.1, ((0 : Int), Unit.unit))) (fun x1 => (Option.some (x1.1, Unit.unit))))))
theorem r79_ok : PureOk Go.Proofs.Try.prog 0 (fun _ => True) 79 [(.pair (.int .i64) (.pair (.int .i64) .unit)), (.pair (.int .i64) (.pair (.int .i64) .unit)), (.pair (.int .i64) (.pair (.int .i64) .unit))] [(.int .i64)] r79 :=
  pureOk_of_run (F := specOf [(83, pureSpec [(.pair (.int .i64) (.pair (.int .i64) .unit)), (.pair (.int .i64) (.pair (.int .i64) .unit)), (.pair (.int .i64) (.pair (.int .i64) .unit))] [(.int .i64)] r83), (82, pureSpec [(.int .i64), (.int .i64)] [(.int .i64)] r82)]) (hs := hintOf []) stays_triv (specOf_cons (PureOk.spec r83_ok) (specOf_cons (PureOk.spec r82_ok) specOf_nil)) mixed Go.Proofs.Try.func79 rfl (by kernel_rfl) (fun _ => by kernel_rfl)

/-- terrier/point.Dot -/
noncomputable def r88 (x : (kdP [(.pair (.int .i64) (.pair (.int .i64) .unit)), (.pair (.int .i64) (.pair (.int .i64) .unit)), (.pair (.int .i64) (.pair (.int .i64) .unit))]).T) : Option (kdP [(.int .i64)]).T :=
  (Option.bind (r87 ((x.1.1, (x.1.2.1, Unit.unit)), ((x.2.1.1, (x.2.1.2.1, Unit.unit)), Unit.unit))) (fun x0 => (Option.bind (r87 ((x.1.1, (x.1.2.1, Unit.unit)), ((x.2.2.1.1, (x.2.2.1.2.1, Unit.unit)), Unit.unit))) (fun x1 => (Option.some ((IntKind.wrap IntKind.i64 (HAdd.hAdd (IntKind.wrap IntKind.i64 (HMul.hMul x0.1.1 x1.1.1)) (IntKind.wrap IntKind.i64 (HMul.hMul x0.1.2.1 x1.1.2.1)))), Unit.unit))))))
theorem r88_ok : PureOk Go.Proofs.Try.prog 0 (fun _ => True) 88 [(.pair (.int .i64) (.pair (.int .i64) .unit)), (.pair (.int .i64) (.pair (.int .i64) .unit)), (.pair (.int .i64) (.pair (.int .i64) .unit))] [(.int .i64)] r88 :=
  pureOk_of_run (F := specOf [(87, pureSpec [(.pair (.int .i64) (.pair (.int .i64) .unit)), (.pair (.int .i64) (.pair (.int .i64) .unit))] [(.pair (.int .i64) (.pair (.int .i64) .unit))] r87)]) (hs := hintOf []) stays_triv (specOf_cons (PureOk.spec r87_ok) specOf_nil) mixed Go.Proofs.Try.func88 rfl (by kernel_rfl) (fun _ => by kernel_rfl)

/-- terrier/point.On -/
noncomputable def r85 (x : (kdP [(.pair (.int .i64) (.pair (.int .i64) .unit)), (.pair (.int .i64) (.pair (.int .i64) .unit)), (.pair (.int .i64) (.pair (.int .i64) .unit))]).T) : Option (kdP [.bool]).T :=
  (Option.bind (r79 ((x.1.1, (x.1.2.1, Unit.unit)), ((x.2.1.1, (x.2.1.2.1, Unit.unit)), ((x.2.2.1.1, (x.2.2.1.2.1, Unit.unit)), Unit.unit)))) (fun x0 => (cond (Decidable.decide (Eq x0.1 (0 : Int))) (Option.bind (r88 ((x.2.2.1.1, (x.2.2.1.2.1, Unit.unit)), ((x.1.1, (x.1.2.1, Unit.unit)), ((x.2.1.1, (x.2.1.2.1, Unit.unit)), Unit.unit)))) (fun x1 => (Option.some ((Decidable.decide (LE.le x1.1 (0 : Int))), Unit.unit)))) (Option.some (Bool.false, Unit.unit)))))
theorem r85_ok : PureOk Go.Proofs.Try.prog 0 (fun _ => True) 85 [(.pair (.int .i64) (.pair (.int .i64) .unit)), (.pair (.int .i64) (.pair (.int .i64) .unit)), (.pair (.int .i64) (.pair (.int .i64) .unit))] [.bool] r85 :=
  pureOk_of_run (F := specOf [(79, pureSpec [(.pair (.int .i64) (.pair (.int .i64) .unit)), (.pair (.int .i64) (.pair (.int .i64) .unit)), (.pair (.int .i64) (.pair (.int .i64) .unit))] [(.int .i64)] r79), (88, pureSpec [(.pair (.int .i64) (.pair (.int .i64) .unit)), (.pair (.int .i64) (.pair (.int .i64) .unit)), (.pair (.int .i64) (.pair (.int .i64) .unit))] [(.int .i64)] r88)]) (hs := hintOf []) stays_triv (specOf_cons (PureOk.spec r79_ok) (specOf_cons (PureOk.spec r88_ok) specOf_nil)) mixed Go.Proofs.Try.func85 rfl (by kernel_rfl) (fun _ => by kernel_rfl)

/-- terrier/seg.shared$1 -/
noncomputable def r84 (x : (kdP [(.pair (.int .i64) (.pair (.int .i64) .unit)), (.pair (.int .i64) (.pair (.int .i64) .unit)), (.pair (.int .i64) (.pair (.int .i64) .unit))]).T) (d : (kdL [.own (.pair (.int .i64) (.pair (.int .i64) .unit))]).T) : Option ((kdP []).T × (kdL [.own (.pair (.int .i64) (.pair (.int .i64) .unit))]).T) :=
  (Option.bind (r85 ((x.2.1.1, (x.2.1.2.1, Unit.unit)), ((x.2.2.1.1, (x.2.2.1.2.1, Unit.unit)), ((x.1.1, (x.1.2.1, Unit.unit)), Unit.unit)))) (fun x0 => (cond (Bool.not x0.1) (Option.some (Unit.unit, (d.1, Unit.unit))) (Option.bind (loop (D := (Prod (Kd.T (.pair (.int .i64) .unit)) (Kd.T .unit))) (O := (Sum (Kd.T (.pair .unit .unit)) (OutT (List.cons ((Ex3.exit 0), (Sh.mk (List.nil) (List.nil) (List.nil))) (List.nil))))) (fun x1 => (cond (Decidable.decide (LT.lt x1.1.1 (Nat.cast (List.length d.1) : Int))) (cond (inB x1.1.1 (List.length d.1)) (Option.bind (GetElem?.getElem? d.1 (Int.toNat x1.1.1)) (fun x2 => (cond (Bool.and (Decidable.decide (Eq x2.1 x.1.1)) (Decidable.decide (Eq x2.2.1 x.1.2.1))) (Option.some (Sum.inr (Sum.inl (Unit.unit, Unit.unit)))) (Option.some (Sum.inl (((IntKind.wrap IntKind.i64 (HAdd.hAdd x1.1.1 (1 : Int))), Unit.unit), Unit.unit)))))) (Option.none)) (Option.some (Sum.inr (Sum.inr (Sum.inl (Unit.unit, Unit.unit))))))) (((0 : Int), Unit.unit), Unit.unit)) (sumE (fun x1 => (Option.some (Unit.unit, (d.1, Unit.unit)))) (sumE (fun x1 => (cond (fits (HAdd.hAdd (List.length d.1) (List.length (List.cons (x.1.1, (x.1.2.1, Unit.unit)) (List.nil)))) 16) (Option.some (Unit.unit, ((HAppend.hAppend d.1 (List.cons (x.1.1, (x.1.2.1, Unit.unit)) (List.nil))), Unit.unit))) (Option.none))) (emptyE)))))))
theorem r84_ok : SpecOk Go.Proofs.Try.prog 0 (fun _ => True) 84 (memSpec [.dat (.pair (.int .i64) (.pair (.int .i64) .unit)), .dat (.pair (.int .i64) (.pair (.int .i64) .unit)), .dat (.pair (.int .i64) (.pair (.int .i64) .unit)), .ptr 0 0] [(0, [.own (.pair (.int .i64) (.pair (.int .i64) .unit))])] [(0, [.own (.pair (.int .i64) (.pair (.int .i64) .unit))])] [] r84) :=
  memSpec_ok (F := specOf [(85, pureSpec [(.pair (.int .i64) (.pair (.int .i64) .unit)), (.pair (.int .i64) (.pair (.int .i64) .unit)), (.pair (.int .i64) (.pair (.int .i64) .unit))] [.bool] r85)]) (hs := hintOf [(0, ⟨⟨[(16, .lf (.int .i64))], [], []⟩, [(.ret, ⟨[], [], []⟩), ((.exit 0), ⟨[], [], []⟩)]⟩)]) stays_triv (specOf_cons (PureOk.spec r85_ok) specOf_nil) mixed Go.Proofs.Try.func84 rfl (by kernel_rfl) (by kernel_rfl) (fun _ _ => by kernel_rfl)

/-- terrier/seg.shared -/
noncomputable def r80 (x : (kdP [(.pair (.int .i64) (.pair (.int .i64) .unit)), (.pair (.int .i64) (.pair (.int .i64) .unit)), (.pair (.int .i64) (.pair (.int .i64) .unit)), (.pair (.int .i64) (.pair (.int .i64) .unit))]).T) : Option (kdP [(.slice (.pair (.int .i64) (.pair (.int .i64) .unit)))]).T :=
  (Option.bind (r84 ((x.1.1, (x.1.2.1, Unit.unit)), ((x.2.2.1.1, (x.2.2.1.2.1, Unit.unit)), ((x.2.2.2.1.1, (x.2.2.2.1.2.1, Unit.unit)), Unit.unit))) ((List.nil), Unit.unit)) (fun x0 => (Option.bind (r84 ((x.2.1.1, (x.2.1.2.1, Unit.unit)), ((x.2.2.1.1, (x.2.2.1.2.1, Unit.unit)), ((x.2.2.2.1.1, (x.2.2.2.1.2.1, Unit.unit)), Unit.unit))) (x0.2.1, Unit.unit)) (fun x1 => (Option.bind (r84 ((x.2.2.1.1, (x.2.2.1.2.1, Unit.unit)), ((x.1.1, (x.1.2.1, Unit.unit)), ((x.2.1.1, (x.2.1.2.1, Unit.unit)), Unit.unit))) (x1.2.1, Unit.unit)) (fun x2 => (Option.bind (r84 ((x.2.2.2.1.1, (x.2.2.2.1.2.1, Unit.unit)), ((x.1.1, (x.1.2.1, Unit.unit)), ((x.2.1.1, (x.2.1.2.1, Unit.unit)), Unit.unit))) (x2.2.1, Unit.unit)) (fun x3 => (Option.some (x3.2.1, Unit.unit))))))))))
theorem r80_ok : PureOk Go.Proofs.Try.prog 0 (fun _ => True) 80 [(.pair (.int .i64) (.pair (.int .i64) .unit)), (.pair (.int .i64) (.pair (.int .i64) .unit)), (.pair (.int .i64) (.pair (.int .i64) .unit)), (.pair (.int .i64) (.pair (.int .i64) .unit))] [(.slice (.pair (.int .i64) (.pair (.int .i64) .unit)))] r80 :=
  pureOk_of_run (F := specOf [(84, memSpec [.dat (.pair (.int .i64) (.pair (.int .i64) .unit)), .dat (.pair (.int .i64) (.pair (.int .i64) .unit)), .dat (.pair (.int .i64) (.pair (.int .i64) .unit)), .ptr 0 0] [(0, [.own (.pair (.int .i64) (.pair (.int .i64) .unit))])] [(0, [.own (.pair (.int .i64) (.pair (.int .i64) .unit))])] [] r84)]) (hs := hintOf []) stays_triv (specOf_cons r84_ok specOf_nil) mixed Go.Proofs.Try.func80 rfl (by kernel_rfl) (fun _ => by kernel_rfl)

/-- terrier/seg.Meet -/
noncomputable def r76 (x : (kdP [(.pair (.int .i64) (.pair (.int .i64) .unit)), (.pair (.int .i64) (.pair (.int .i64) .unit)), (.pair (.int .i64) (.pair (.int .i64) .unit)), (.pair (.int .i64) (.pair (.int .i64) .unit))]).T) : Option (kdP [(.int .i64)]).T :=
  (Option.bind (r70 ((x.1.1, (x.1.2.1, Unit.unit)), Unit.unit)) (fun x0 => (Option.bind (r70 ((x.2.1.1, (x.2.1.2.1, Unit.unit)), Unit.unit)) (fun x1 => (Option.bind (r70 ((x.2.2.1.1, (x.2.2.1.2.1, Unit.unit)), Unit.unit)) (fun x2 => (Option.bind (r70 ((x.2.2.2.1.1, (x.2.2.2.1.2.1, Unit.unit)), Unit.unit)) (fun x3 => (Option.bind (r79 ((x0.1.1, (x0.1.2.1, Unit.unit)), ((x1.1.1, (x1.1.2.1, Unit.unit)), ((x2.1.1, (x2.1.2.1, Unit.unit)), Unit.unit)))) (fun x4 => (Option.bind (r79 ((x0.1.1, (x0.1.2.1, Unit.unit)), ((x1.1.1, (x1.1.2.1, Unit.unit)), ((x3.1.1, (x3.1.2.1, Unit.unit)), Unit.unit)))) (fun x5 => (cond (Decidable.decide (LT.lt (IntKind.wrap IntKind.i64 (HMul.hMul x4.1 x5.1)) (0 : Int))) (Option.bind (r79 ((x2.1.1, (x2.1.2.1, Unit.unit)), ((x3.1.1, (x3.1.2.1, Unit.unit)), ((x0.1.1, (x0.1.2.1, Unit.unit)), Unit.unit)))) (fun x6 => (Option.bind (r79 ((x2.1.1, (x2.1.2.1, Unit.unit)), ((x3.1.1, (x3.1.2.1, Unit.unit)), ((x1.1.1, (x1.1.2.1, Unit.unit)), Unit.unit)))) (fun x7 => (cond (Decidable.decide (LT.lt (IntKind.wrap IntKind.i64 (HMul.hMul x6.1 x7.1)) (0 : Int))) (Option.some ((1 : Int), Unit.unit)) (Option.bind (r80 ((x0.1.1, (x0.1.2.1, Unit.unit)), ((x1.1.1, (x1.1.2.1, Unit.unit)), ((x2.1.1, (x2.1.2.1, Unit.unit)), ((x3.1.1, (x3.1.2.1, Unit.unit)), Unit.unit))))) (fun x8 => (Option.some ((minI (2 : Int) (Nat.cast (List.length x8.1) : Int)), Unit.unit))))))))) (Option.bind (r80 ((x0.1.1, (x0.1.2.1, Unit.unit)), ((x1.1.1, (x1.1.2.1, Unit.unit)), ((x2.1.1, (x2.1.2.1, Unit.unit)), ((x3.1.1, (x3.1.2.1, Unit.unit)), Unit.unit))))) (fun x6 => (Option.some ((minI (2 : Int) (Nat.cast (List.length x6.1) : Int)), Unit.unit)))))))))))))))))
theorem r76_ok : PureOk Go.Proofs.Try.prog 0 (fun _ => True) 76 [(.pair (.int .i64) (.pair (.int .i64) .unit)), (.pair (.int .i64) (.pair (.int .i64) .unit)), (.pair (.int .i64) (.pair (.int .i64) .unit)), (.pair (.int .i64) (.pair (.int .i64) .unit))] [(.int .i64)] r76 :=
  pureOk_of_run (F := specOf [(70, pureSpec [(.pair (.int .i64) (.pair (.int .i64) .unit))] [(.pair (.int .i64) (.pair (.int .i64) .unit))] r70), (79, pureSpec [(.pair (.int .i64) (.pair (.int .i64) .unit)), (.pair (.int .i64) (.pair (.int .i64) .unit)), (.pair (.int .i64) (.pair (.int .i64) .unit))] [(.int .i64)] r79), (80, pureSpec [(.pair (.int .i64) (.pair (.int .i64) .unit)), (.pair (.int .i64) (.pair (.int .i64) .unit)), (.pair (.int .i64) (.pair (.int .i64) .unit)), (.pair (.int .i64) (.pair (.int .i64) .unit))] [(.slice (.pair (.int .i64) (.pair (.int .i64) .unit)))] r80)]) (hs := hintOf []) stays_triv (specOf_cons (PureOk.spec r70_ok) (specOf_cons (PureOk.spec r79_ok) (specOf_cons (PureOk.spec r80_ok) specOf_nil))) mixed Go.Proofs.Try.func76 rfl (by kernel_rfl) (fun _ => by kernel_rfl)

/-- terrier/ring.apart -/
noncomputable def r72 (x : (kdP [(.slice (.pair (.int .i64) (.pair (.int .i64) .unit))), (.int .i64), (.int .i64)]).T) : Option (kdP [.bool]).T :=
  (cond (inB x.2.1 (List.length x.1)) (Option.bind (GetElem?.getElem? x.1 (Int.toNat x.2.1)) (fun x0 => (cond (Decidable.decide (Eq (Nat.cast (List.length x.1) : Int) (0 : Int))) (Option.none) (cond (inB (Int.tmod (IntKind.wrap IntKind.i64 (HAdd.hAdd x.2.1 (1 : Int))) (Nat.cast (List.length x.1) : Int)) (List.length x.1)) (Option.bind (GetElem?.getElem? x.1 (Int.toNat (Int.tmod (IntKind.wrap IntKind.i64 (HAdd.hAdd x.2.1 (1 : Int))) (Nat.cast (List.length x.1) : Int)))) (fun x1 => (cond (inB x.2.2.1 (List.length x.1)) (Option.bind (GetElem?.getElem? x.1 (Int.toNat x.2.2.1)) (fun x2 => (cond (Decidable.decide (Eq (Nat.cast (List.length x.1) : Int) (0 : Int))) (Option.none) (cond (inB (Int.tmod (IntKind.wrap IntKind.i64 (HAdd.hAdd x.2.2.1 (1 : Int))) (Nat.cast (List.length x.1) : Int)) (List.length x.1)) (Option.bind (GetElem?.getElem? x.1 (Int.toNat (Int.tmod (IntKind.wrap IntKind.i64 (HAdd.hAdd x.2.2.1 (1 : Int))) (Nat.cast (List.length x.1) : Int)))) (fun x3 => (cond (Decidable.decide (Eq (Nat.cast (List.length x.1) : Int) (0 : Int))) (Option.none) (cond (Bool.and (Decidable.decide (Eq x0.1 x1.1)) (Decidable.decide (Eq x0.2.1 x1.2.1))) (Option.some (Bool.false, Unit.unit)) (cond (Bool.and (Decidable.decide (Eq x2.1 x3.1)) (Decidable.decide (Eq x2.2.1 x3.2.1))) (Option.some (Bool.false, Unit.unit)) (cond (Decidable.decide (Eq (IntKind.wrap IntKind.i64 (HAdd.hAdd x.2.1 (1 : Int))) x.2.2.1)) (Option.bind (r76 ((x0.1, (x0.2.1, Unit.unit)), ((x1.1, (x1.2.1, Unit.unit)), ((x2.1, (x2.2.1, Unit.unit)), ((x3.1, (x3.2.1, Unit.unit)), Unit.unit))))) (fun x4 => (Option.some ((Decidable.decide (Eq x4.1 (1 : Int))), Unit.unit)))) (cond (Decidable.decide (Eq (Int.tmod (IntKind.wrap IntKind.i64 (HAdd.hAdd x.2.2.1 (1 : Int))) (Nat.cast (List.length x.1) : Int)) x.2.1)) (Option.bind (r76 ((x0.1, (x0.2.1, Unit.unit)), ((x1.1, (x1.2.1, Unit.unit)), ((x2.1, (x2.2.1, Unit.unit)), ((x3.1, (x3.2.1, Unit.unit)), Unit.unit))))) (fun x4 => (Option.some ((Decidable.decide (Eq x4.1 (1 : Int))), Unit.unit)))) (Option.bind (r76 ((x0.1, (x0.2.1, Unit.unit)), ((x1.1, (x1.2.1, Unit.unit)), ((x2.1, (x2.2.1, Unit.unit)), ((x3.1, (x3.2.1, Unit.unit)), Unit.unit))))) (fun x4 => (Option.some ((Decidable.decide (Eq x4.1 (0 : Int))), Unit.unit))))))))))) (Option.none))))) (Option.none)))) (Option.none))))) (Option.none))
theorem r72_ok : PureOk Go.Proofs.Try.prog 0 (fun _ => True) 72 [(.slice (.pair (.int .i64) (.pair (.int .i64) .unit))), (.int .i64), (.int .i64)] [.bool] r72 :=
  pureOk_of_run (F := specOf [(76, pureSpec [(.pair (.int .i64) (.pair (.int .i64) .unit)), (.pair (.int .i64) (.pair (.int .i64) .unit)), (.pair (.int .i64) (.pair (.int .i64) .unit)), (.pair (.int .i64) (.pair (.int .i64) .unit))] [(.int .i64)] r76)]) (hs := hintOf []) stays_triv (specOf_cons (PureOk.spec r76_ok) specOf_nil) mixed Go.Proofs.Try.func72 rfl (by kernel_rfl) (fun _ => by kernel_rfl)

/-- terrier/ring.Check -/
noncomputable def r66 (x : (kdP [(.slice (.pair (.int .i64) (.pair (.int .i64) .unit)))]).T) : Option (kdP [(.int .i64)]).T :=
  (cond (Decidable.decide (LT.lt (200 : Int) (Nat.cast (List.length x.1) : Int))) (Option.some ((2 : Int), Unit.unit)) (cond (Decidable.decide (LT.lt (Nat.cast (List.length x.1) : Int) (3 : Int))) (Option.some ((3 : Int), Unit.unit)) (Option.bind (r63_71 (x.1, (Unit.unit, Unit.unit))) (fun x0 => (cond x0.1 (Option.some ((1 : Int), Unit.unit)) (Option.bind (loop (D := (Prod (Kd.T (.pair (.int .i64) .unit)) (Kd.T .unit))) (O := (Sum (Kd.T (.pair (.pair (.int .i64) .unit) .unit)) (OutT (List.cons ((Ex3.exit 1), (Sh.mk (List.nil) (List.nil) (List.nil))) (List.nil))))) (fun x1 => (cond (Decidable.decide (LT.lt x1.1.1 (Nat.cast (List.length x.1) : Int))) (Option.bind (loop (D := (Prod (Kd.T (.pair (.int .i64) .unit)) (Kd.T .unit))) (O := (Sum (Kd.T (.pair (.pair (.int .i64) .unit) .unit)) (OutT (List.cons ((Ex3.exit 3), (Sh.mk (List.nil) (List.nil) (List.nil))) (List.nil))))) (fun x2 => (cond (Decidable.decide (LT.lt x2.1.1 x1.1.1)) (Option.bind (r72 (x.1, (x2.1.1, (x1.1.1, Unit.unit)))) (fun x3 => (cond (Bool.not x3.1) (Option.some (Sum.inr (Sum.inl (((10 : Int), Unit.unit), Unit.unit)))) (Option.some (Sum.inl (((IntKind.wrap IntKind.i64 (HAdd.hAdd x2.1.1 (1 : Int))), Unit.unit), Unit.unit)))))) (Option.some (Sum.inr (Sum.inr (Sum.inl (Unit.unit, Unit.unit))))))) (((0 : Int), Unit.unit), Unit.unit)) (sumE (fun x2 => (Option.some (Sum.inr (Sum.inl ((x2.1.1, Unit.unit), Unit.unit))))) (sumE (fun x2 => (Option.some (Sum.inl (((IntKind.wrap IntKind.i64 (HAdd.hAdd x1.1.1 (1 : Int))), Unit.unit), Unit.unit)))) (emptyE)))) (Option.some (Sum.inr (Sum.inr (Sum.inl (Unit.unit, Unit.unit))))))) (((0 : Int), Unit.unit), Unit.unit)) (sumE (fun x1 => (Option.some (x1.1.1, Unit.unit))) (sumE (fun x1 => (Option.some ((0 : Int), Unit.unit))) (emptyE)))))))))
theorem r66_ok : PureOk Go.Proofs.Try.prog 0 (fun _ => True) 66 [(.slice (.pair (.int .i64) (.pair (.int .i64) .unit)))] [(.int .i64)] r66 :=
  pureOk_of_run (F := specOf [(63, pickS [([71], pureSpec [(.slice (.pair (.int .i64) (.pair (.int .i64) .unit))), (.fn 71)] [.bool] r63_71)]), (72, pureSpec [(.slice (.pair (.int .i64) (.pair (.int .i64) .unit))), (.int .i64), (.int .i64)] [.bool] r72)]) (hs := hintOf [(3, ⟨⟨[(22, .lf (.int .i64))], [], []⟩, [(.ret, ⟨[(2, .lf (.int .i64))], [], []⟩), ((.exit 3), ⟨[], [], []⟩)]⟩), (1, ⟨⟨[(18, .lf (.int .i64))], [], []⟩, [(.ret, ⟨[(2, .lf (.int .i64))], [], []⟩), ((.exit 1), ⟨[], [], []⟩)]⟩)]) stays_triv (specOf_cons (pickS_one (PureOk.spec r63_71_ok)) (specOf_cons (PureOk.spec r72_ok) specOf_nil)) mixed Go.Proofs.Try.func66 rfl (by kernel_rfl) (fun _ => by kernel_rfl)

/-- terrier/area.corners -/
noncomputable def r73 (x : (kdP [(.pair (.int .i64) (.pair (.int .i64) .unit)), (.pair (.int .i64) (.pair (.int .i64) .unit)), (.pair (.int .i64) (.pair (.int .i64) .unit)), (.pair (.int .i64) (.pair (.int .i64) .unit))]).T) : Option (kdP [.bool]).T :=
  (Option.bind (r76 ((x.1.1, (x.1.2.1, Unit.unit)), ((x.2.1.1, (x.2.1.2.1, Unit.unit)), ((x.2.2.1.1, (x.2.2.1.2.1, Unit.unit)), ((x.2.2.2.1.1, (x.2.2.2.1.2.1, Unit.unit)), Unit.unit))))) (fun x0 => (cond (Decidable.decide (Eq x0.1 (0 : Int))) (Option.some (Bool.true, Unit.unit)) (cond (Decidable.decide (Eq x0.1 (1 : Int))) (cond (Bool.and (Decidable.decide (Eq x.1.1 x.2.2.1.1)) (Decidable.decide (Eq x.1.2.1 x.2.2.1.2.1))) (Option.some (Bool.true, Unit.unit)) (cond (Bool.and (Decidable.decide (Eq x.1.1 x.2.2.2.1.1)) (Decidable.decide (Eq x.1.2.1 x.2.2.2.1.2.1))) (Option.some (Bool.true, Unit.unit)) (cond (Bool.and (Decidable.decide (Eq x.2.1.1 x.2.2.1.1)) (Decidable.decide (Eq x.2.1.2.1 x.2.2.1.2.1))) (Option.some (Bool.true, Unit.unit)) (Option.some ((Bool.and (Decidable.decide (Eq x.2.1.1 x.2.2.2.1.1)) (Decidable.decide (Eq x.2.1.2.1 x.2.2.2.1.2.1))), Unit.unit))))) (Option.some (Bool.false, Unit.unit))))))
theorem r73_ok : PureOk Go.Proofs.Try.prog 0 (fun _ => True) 73 [(.pair (.int .i64) (.pair (.int .i64) .unit)), (.pair (.int .i64) (.pair (.int .i64) .unit)), (.pair (.int .i64) (.pair (.int .i64) .unit)), (.pair (.int .i64) (.pair (.int .i64) .unit))] [.bool] r73 :=
  pureOk_of_run (F := specOf [(76, pureSpec [(.pair (.int .i64) (.pair (.int .i64) .unit)), (.pair (.int .i64) (.pair (.int .i64) .unit)), (.pair (.int .i64) (.pair (.int .i64) .unit)), (.pair (.int .i64) (.pair (.int .i64) .unit))] [(.int .i64)] r76)]) (hs := hintOf []) stays_triv (specOf_cons (PureOk.spec r76_ok) specOf_nil) mixed Go.Proofs.Try.func73 rfl (by kernel_rfl) (fun _ => by kernel_rfl)

/-- terrier/area.side -/
noncomputable def r77 (x : (kdP [(.slice (.pair (.int .i64) (.pair (.int .i64) .unit))), (.int .i64), (.slice (.pair (.int .i64) (.pair (.int .i64) .unit)))]).T) : Option (kdP [(.int .i64)]).T :=
  (cond (inB x.2.1 (List.length x.1)) (Option.bind (GetElem?.getElem? x.1 (Int.toNat x.2.1)) (fun x0 => (cond (Decidable.decide (Eq (Nat.cast (List.length x.1) : Int) (0 : Int))) (Option.none) (cond (inB (Int.tmod (IntKind.wrap IntKind.i64 (HAdd.hAdd x.2.1 (1 : Int))) (Nat.cast (List.length x.1) : Int)) (List.length x.1)) (Option.bind (GetElem?.getElem? x.1 (Int.toNat (Int.tmod (IntKind.wrap IntKind.i64 (HAdd.hAdd x.2.1 (1 : Int))) (Nat.cast (List.length x.1) : Int)))) (fun x1 => (Option.bind (loop (D := (Prod (Kd.T (.pair (.int .i64) (.pair (.int .i64) .unit))) (Kd.T .unit))) (O := (Sum (Kd.T (.pair (.pair (.int .i64) .unit) .unit)) (OutT (List.nil)))) (fun x2 => (cond (Decidable.decide (LT.lt x2.1.2.1 (Nat.cast (List.length x.2.2.1) : Int))) (cond (inB x2.1.2.1 (List.length x.2.2.1)) (Option.bind (GetElem?.getElem? x.2.2.1 (Int.toNat x2.1.2.1)) (fun x3 => (cond (Decidable.decide (Eq (Nat.cast (List.length x.2.2.1) : Int) (0 : Int))) (Option.none) (cond (inB (Int.tmod (IntKind.wrap IntKind.i64 (HAdd.hAdd x2.1.2.1 (1 : Int))) (Nat.cast (List.length x.2.2.1) : Int)) (List.length x.2.2.1)) (Option.bind (GetElem?.getElem? x.2.2.1 (Int.toNat (Int.tmod (IntKind.wrap IntKind.i64 (HAdd.hAdd x2.1.2.1 (1 : Int))) (Nat.cast (List.length x.2.2.1) : Int)))) (fun x4 => (cond (Decidable.decide (LT.lt x4.2.1 x3.2.1)) (cond (Decidable.decide (LT.lt (IntKind.wrap IntKind.i64 (HMul.hMul (2 : Int) x4.2.1)) (IntKind.wrap IntKind.i64 (HAdd.hAdd x0.2.1 x1.2.1)))) (cond (Decidable.decide (LE.le (IntKind.wrap IntKind.i64 (HAdd.hAdd x0.2.1 x1.2.1)) (IntKind.wrap IntKind.i64 (HMul.hMul (2 : Int) x3.2.1)))) (cond (Decidable.decide (LT.lt (0 : Int) (IntKind.wrap IntKind.i64 (HSub.hSub (IntKind.wrap IntKind.i64 (HMul.hMul (IntKind.wrap IntKind.i64 (HSub.hSub x3.1 x4.1)) (IntKind.wrap IntKind.i64 (HSub.hSub (IntKind.wrap IntKind.i64 (HAdd.hAdd x0.2.1 x1.2.1)) (IntKind.wrap IntKind.i64 (HMul.hMul (2 : Int) x4.2.1)))))) (IntKind.wrap IntKind.i64 (HMul.hMul (IntKind.wrap IntKind.i64 (HSub.hSub x3.2.1 x4.2.1)) (IntKind.wrap IntKind.i64 (HSub.hSub (IntKind.wrap IntKind.i64 (HAdd.hAdd x0.1 x1.1)) (IntKind.wrap IntKind.i64 (HMul.hMul (2 : Int) x4.1)))))))))) (Option.some (Sum.inl (((IntKind.wrap IntKind.i64 (HSub.hSub (0 : Int) x2.1.1)), ((IntKind.wrap IntKind.i64 (HAdd.hAdd x2.1.2.1 (1 : Int))), Unit.unit)), Unit.unit))) (Option.some (Sum.inl ((x2.1.1, ((IntKind.wrap IntKind.i64 (HAdd.hAdd x2.1.2.1 (1 : Int))), Unit.unit)), Unit.unit)))) (Option.some (Sum.inl ((x2.1.1, ((IntKind.wrap IntKind.i64 (HAdd.hAdd x2.1.2.1 (1 : Int))), Unit.unit)), Unit.unit)))) (Option.some (Sum.inl ((x2.1.1, ((IntKind.wrap IntKind.i64 (HAdd.hAdd x2.1.2.1 (1 : Int))), Unit.unit)), Unit.unit)))) (cond (Decidable.decide (LT.lt (IntKind.wrap IntKind.i64 (HMul.hMul (2 : Int) x3.2.1)) (IntKind.wrap IntKind.i64 (HAdd.hAdd x0.2.1 x1.2.1)))) (cond (Decidable.decide (LE.le (IntKind.wrap IntKind.i64 (HAdd.hAdd x0.2.1 x1.2.1)) (IntKind.wrap IntKind.i64 (HMul.hMul (2 : Int) x4.2.1)))) (cond (Decidable.decide (LT.lt (0 : Int) (IntKind.wrap IntKind.i64 (HSub.hSub (IntKind.wrap IntKind.i64 (HMul.hMul (IntKind.wrap IntKind.i64 (HSub.hSub x4.1 x3.1)) (IntKind.wrap IntKind.i64 (HSub.hSub (IntKind.wrap IntKind.i64 (HAdd.hAdd x0.2.1 x1.2.1)) (IntKind.wrap IntKind.i64 (HMul.hMul (2 : Int) x3.2.1)))))) (IntKind.wrap IntKind.i64 (HMul.hMul (IntKind.wrap IntKind.i64 (HSub.hSub x4.2.1 x3.2.1)) (IntKind.wrap IntKind.i64 (HSub.hSub (IntKind.wrap IntKind.i64 (HAdd.hAdd x0.1 x1.1)) (IntKind.wrap IntKind.i64 (HMul.hMul (2 : Int) x3.1)))))))))) (Option.some (Sum.inl (((IntKind.wrap IntKind.i64 (HSub.hSub (0 : Int) x2.1.1)), ((IntKind.wrap IntKind.i64 (HAdd.hAdd x2.1.2.1 (1 : Int))), Unit.unit)), Unit.unit))) (Option.some (Sum.inl ((x2.1.1, ((IntKind.wrap IntKind.i64 (HAdd.hAdd x2.1.2.1 (1 : Int))), Unit.unit)), Unit.unit)))) (Option.some (Sum.inl ((x2.1.1, ((IntKind.wrap IntKind.i64 (HAdd.hAdd x2.1.2.1 (1 : Int))), Unit.unit)), Unit.unit)))) (Option.some (Sum.inl ((x2.1.1, ((IntKind.wrap IntKind.i64 (HAdd.hAdd x2.1.2.1 (1 : Int))), Unit.unit)), Unit.unit))))))) (Option.none))))) (Option.none)) (Option.some (Sum.inr (Sum.inl ((x2.1.1, Unit.unit), Unit.unit)))))) (((Neg.neg (1 : Int)), ((0 : Int), Unit.unit)), Unit.unit)) (sumE (fun x2 => (Option.some (x2.1.1, Unit.unit))) (emptyE))))) (Option.none))))) (Option.none))
theorem r77_ok : PureOk Go.Proofs.Try.prog 0 (fun _ => True) 77 [(.slice (.pair (.int .i64) (.pair (.int .i64) .unit))), (.int .i64), (.slice (.pair (.int .i64) (.pair (.int .i64) .unit)))] [(.int .i64)] r77 :=
  pureOk_of_run (F := specOf []) (hs := hintOf [(0, ⟨⟨[(10, .lf (.int .i64)), (40, .lf (.int .i64))], [], []⟩, [((.exit 0), ⟨[(10, .lf (.int .i64))], [], []⟩)]⟩)]) stays_triv specOf_nil mixed Go.Proofs.Try.func77 rfl (by kernel_rfl) (fun _ => by kernel_rfl)

/-- slices.Index[[]int,int] -/
noncomputable def r81 (x : (kdP [(.slice (.int .i64)), (.int .i64)]).T) : Option (kdP [(.int .i64)]).T :=
  (Option.bind (loop (D := (Prod (Kd.T (.pair (.int .i64) .unit)) (Kd.T .unit))) (O := (Sum (Kd.T (.pair (.pair (.int .i64) .unit) .unit)) (OutT (List.cons ((Ex3.exit 0), (Sh.mk (List.nil) (List.nil) (List.nil))) (List.nil))))) (fun x0 => (cond (Decidable.decide (LT.lt x0.1.1 (Nat.cast (List.length x.1) : Int))) (cond (inB x0.1.1 (List.length x.1)) (Option.bind (GetElem?.getElem? x.1 (Int.toNat x0.1.1)) (fun x1 => (cond (Decidable.decide (Eq x.2.1 x1)) (Option.some (Sum.inr (Sum.inl ((x0.1.1, Unit.unit), Unit.unit)))) (Option.some (Sum.inl (((IntKind.wrap IntKind.i64 (HAdd.hAdd x0.1.1 (1 : Int))), Unit.unit), Unit.unit)))))) (Option.none)) (Option.some (Sum.inr (Sum.inr (Sum.inl (Unit.unit, Unit.unit))))))) (((0 : Int), Unit.unit), Unit.unit)) (sumE (fun x0 => (Option.some (x0.1.1, Unit.unit))) (sumE (fun x0 => (Option.some ((Neg.neg (1 : Int)), Unit.unit))) (emptyE))))
theorem r81_ok : PureOk Go.Proofs.Try.prog 0 (fun _ => True) 81 [(.slice (.int .i64)), (.int .i64)] [(.int .i64)] r81 :=
  pureOk_of_run (F := specOf []) (hs := hintOf [(0, ⟨⟨[(8, .lf (.int .i64))], [], []⟩, [(.ret, ⟨[(4, .lf (.int .i64))], [], []⟩), ((.exit 0), ⟨[], [], []⟩)]⟩)]) stays_triv specOf_nil mixed Go.Proofs.Try.func81 rfl (by kernel_rfl) (fun _ => by kernel_rfl)

/-- slices.Contains[[]int,int] -/
noncomputable def r78 (x : (kdP [(.slice (.int .i64)), (.int .i64)]).T) : Option (kdP [.bool]).T :=
  (Option.bind (r81 (x.1, (x.2.1, Unit.unit))) (fun x0 => (Option.some ((Decidable.decide (LE.le (0 : Int) x0.1)), Unit.unit))))
theorem r78_ok : PureOk Go.Proofs.Try.prog 0 (fun _ => True) 78 [(.slice (.int .i64)), (.int .i64)] [.bool] r78 :=
  pureOk_of_run (F := specOf [(81, pureSpec [(.slice (.int .i64)), (.int .i64)] [(.int .i64)] r81)]) (hs := hintOf []) stays_triv (specOf_cons (PureOk.spec r81_ok) specOf_nil) mixed Go.Proofs.Try.func78 rfl (by kernel_rfl) (fun _ => by kernel_rfl)

/-- terrier/area.sides -/
noncomputable def r74 (x : (kdP [(.slice (.pair (.int .i64) (.pair (.int .i64) .unit))), (.slice (.pair (.int .i64) (.pair (.int .i64) .unit)))]).T) : Option (kdP [(.slice (.int .i64))]).T :=
  (Option.bind (loop (D := (Prod (Kd.T (.pair (.slice (.int .i64)) (.pair (.int .i64) .unit))) (Kd.T .unit))) (O := (Sum (Kd.T (.pair (.pair (.slice (.int .i64)) .unit) .unit)) (OutT (List.nil)))) (fun x0 => (cond (Decidable.decide (LT.lt x0.1.2.1 (Nat.cast (List.length x.1) : Int))) (Option.bind (r77 (x.1, (x0.1.2.1, (x.2.1, Unit.unit)))) (fun x1 => (Option.bind (r78 (x0.1.1, (x1.1, Unit.unit))) (fun x2 => (cond (Bool.not x2.1) (cond (fits (HAdd.hAdd (List.length x0.1.1) (List.length (List.cons x1.1 (List.nil)))) 8) (Option.some (Sum.inl (((HAppend.hAppend x0.1.1 (List.cons x1.1 (List.nil))), ((IntKind.wrap IntKind.i64 (HAdd.hAdd x0.1.2.1 (1 : Int))), Unit.unit)), Unit.unit))) (Option.none)) (Option.some (Sum.inl ((x0.1.1, ((IntKind.wrap IntKind.i64 (HAdd.hAdd x0.1.2.1 (1 : Int))), Unit.unit)), Unit.unit)))))))) (Option.some (Sum.inr (Sum.inl ((x0.1.1, Unit.unit), Unit.unit)))))) (((List.nil), ((0 : Int), Unit.unit)), Unit.unit)) (sumE (fun x0 => (Option.some (x0.1.1, Unit.unit))) (emptyE)))
theorem r74_ok : PureOk Go.Proofs.Try.prog 0 (fun _ => True) 74 [(.slice (.pair (.int .i64) (.pair (.int .i64) .unit))), (.slice (.pair (.int .i64) (.pair (.int .i64) .unit)))] [(.slice (.int .i64))] r74 :=
  pureOk_of_run (F := specOf [(77, pureSpec [(.slice (.pair (.int .i64) (.pair (.int .i64) .unit))), (.int .i64), (.slice (.pair (.int .i64) (.pair (.int .i64) .unit)))] [(.int .i64)] r77), (78, pureSpec [(.slice (.int .i64)), (.int .i64)] [.bool] r78)]) (hs := hintOf [(0, ⟨⟨[(5, .own (.int .i64)), (10, .lf (.int .i64))], [], []⟩, [((.exit 0), ⟨[(5, .own (.int .i64))], [], []⟩)]⟩)]) stays_triv (specOf_cons (PureOk.spec r77_ok) (specOf_cons (PureOk.spec r78_ok) specOf_nil)) mixed Go.Proofs.Try.func74 rfl (by kernel_rfl) (fun _ => by kernel_rfl)

/-- terrier/area.fits -/
noncomputable def r67 (x : (kdP [(.slice (.pair (.int .i64) (.pair (.int .i64) .unit))), (.slice (.pair (.int .i64) (.pair (.int .i64) .unit)))]).T) : Option (kdP [.bool]).T :=
  (Option.bind (loop (D := (Prod (Kd.T (.pair (.int .i64) .unit)) (Kd.T .unit))) (O := (Sum (Kd.T (.pair (.pair .bool .unit) .unit)) (OutT (List.cons ((Ex3.exit 0), (Sh.mk (List.nil) (List.nil) (List.nil))) (List.nil))))) (fun x0 => (cond (Decidable.decide (LT.lt x0.1.1 (Nat.cast (List.length x.1) : Int))) (Option.bind (loop (D := (Prod (Kd.T (.pair (.int .i64) .unit)) (Kd.T .unit))) (O := (Sum (Kd.T (.pair (.pair .bool .unit) .unit)) (OutT (List.cons ((Ex3.exit 2), (Sh.mk (List.nil) (List.nil) (List.nil))) (List.nil))))) (fun x1 => (cond (Decidable.decide (LT.lt x1.1.1 (Nat.cast (List.length x.2.1) : Int))) (cond (inB x0.1.1 (List.length x.1)) (Option.bind (GetElem?.getElem? x.1 (Int.toNat x0.1.1)) (fun x2 => (cond (Decidable.decide (Eq (Nat.cast (List.length x.1) : Int) (0 : Int))) (Option.none) (cond (inB (Int.tmod (IntKind.wrap IntKind.i64 (HAdd.hAdd x0.1.1 (1 : Int))) (Nat.cast (List.length x.1) : Int)) (List.length x.1)) (Option.bind (GetElem?.getElem? x.1 (Int.toNat (Int.tmod (IntKind.wrap IntKind.i64 (HAdd.hAdd x0.1.1 (1 : Int))) (Nat.cast (List.length x.1) : Int)))) (fun x3 => (cond (inB x1.1.1 (List.length x.2.1)) (Option.bind (GetElem?.getElem? x.2.1 (Int.toNat x1.1.1)) (fun x4 => (cond (Decidable.decide (Eq (Nat.cast (List.length x.2.1) : Int) (0 : Int))) (Option.none) (cond (inB (Int.tmod (IntKind.wrap IntKind.i64 (HAdd.hAdd x1.1.1 (1 : Int))) (Nat.cast (List.length x.2.1) : Int)) (List.length x.2.1)) (Option.bind (GetElem?.getElem? x.2.1 (Int.toNat (Int.tmod (IntKind.wrap IntKind.i64 (HAdd.hAdd x1.1.1 (1 : Int))) (Nat.cast (List.length x.2.1) : Int)))) (fun x5 => (Option.bind (r73 ((x2.1, (x2.2.1, Unit.unit)), ((x3.1, (x3.2.1, Unit.unit)), ((x4.1, (x4.2.1, Unit.unit)), ((x5.1, (x5.2.1, Unit.unit)), Unit.unit))))) (fun x6 => (cond (Bool.not x6.1) (Option.some (Sum.inr (Sum.inl ((Bool.false, Unit.unit), Unit.unit)))) (Option.some (Sum.inl (((IntKind.wrap IntKind.i64 (HAdd.hAdd x1.1.1 (1 : Int))), Unit.unit), Unit.unit)))))))) (Option.none))))) (Option.none)))) (Option.none))))) (Option.none)) (Option.some (Sum.inr (Sum.inr (Sum.inl (Unit.unit, Unit.unit))))))) (((0 : Int), Unit.unit), Unit.unit)) (sumE (fun x1 => (Option.some (Sum.inr (Sum.inl ((x1.1.1, Unit.unit), Unit.unit))))) (sumE (fun x1 => (Option.some (Sum.inl (((IntKind.wrap IntKind.i64 (HAdd.hAdd x0.1.1 (1 : Int))), Unit.unit), Unit.unit)))) (emptyE)))) (Option.some (Sum.inr (Sum.inr (Sum.inl (Unit.unit, Unit.unit))))))) (((0 : Int), Unit.unit), Unit.unit)) (sumE (fun x0 => (Option.some (x0.1.1, Unit.unit))) (sumE (fun x0 => (Option.bind (r74 (x.1, (x.2.1, Unit.unit))) (fun x1 => (cond (Decidable.decide (Eq (Nat.cast (List.length x1.1) : Int) (1 : Int))) (Option.bind (r74 (x.2.1, (x.1, Unit.unit))) (fun x2 => (Option.some ((Decidable.decide (Eq (Nat.cast (List.length x2.1) : Int) (1 : Int))), Unit.unit)))) (Option.some (Bool.false, Unit.unit)))))) (emptyE))))
theorem r67_ok : PureOk Go.Proofs.Try.prog 0 (fun _ => True) 67 [(.slice (.pair (.int .i64) (.pair (.int .i64) .unit))), (.slice (.pair (.int .i64) (.pair (.int .i64) .unit)))] [.bool] r67 :=
  pureOk_of_run (F := specOf [(73, pureSpec [(.pair (.int .i64) (.pair (.int .i64) .unit)), (.pair (.int .i64) (.pair (.int .i64) .unit)), (.pair (.int .i64) (.pair (.int .i64) .unit)), (.pair (.int .i64) (.pair (.int .i64) .unit))] [.bool] r73), (74, pureSpec [(.slice (.pair (.int .i64) (.pair (.int .i64) .unit))), (.slice (.pair (.int .i64) (.pair (.int .i64) .unit)))] [(.slice (.int .i64))] r74)]) (hs := hintOf [(2, ⟨⟨[(14, .lf (.int .i64))], [], []⟩, [(.ret, ⟨[(4, .lf .bool)], [], []⟩), ((.exit 2), ⟨[], [], []⟩)]⟩), (0, ⟨⟨[(9, .lf (.int .i64))], [], []⟩, [(.ret, ⟨[(4, .lf .bool)], [], []⟩), ((.exit 0), ⟨[], [], []⟩)]⟩)]) stays_triv (specOf_cons (PureOk.spec r73_ok) (specOf_cons (PureOk.spec r74_ok) specOf_nil)) mixed Go.Proofs.Try.func67 rfl (by kernel_rfl) (fun _ => by kernel_rfl)

/-- terrier/area.Check -/
noncomputable def r57 (x : (kdP [(.slice (.slice (.pair (.int .i64) (.pair (.int .i64) .unit))))]).T) : Option (kdP [(.int .i64)]).T :=
  (cond (Decidable.decide (LT.lt (20 : Int) (Nat.cast (List.length x.1) : Int))) (Option.some ((2 : Int), Unit.unit)) (Option.bind (loop (D := (Prod (Kd.T (.pair (.int .i64) .unit)) (Kd.T .unit))) (O := (Sum (Kd.T (.pair (.pair (.int .i64) .unit) .unit)) (OutT (List.cons ((Ex3.exit 0), (Sh.mk (List.nil) (List.nil) (List.nil))) (List.nil))))) (fun x0 => (cond (Decidable.decide (LT.lt x0.1.1 (Nat.cast (List.length x.1) : Int))) (cond (inB x0.1.1 (List.length x.1)) (Option.bind (GetElem?.getElem? x.1 (Int.toNat x0.1.1)) (fun x1 => (Option.bind (r66 (x1, Unit.unit)) (fun x2 => (cond (Bool.not (Decidable.decide (Eq x2.1 (0 : Int)))) (Option.some (Sum.inr (Sum.inl ((x2.1, Unit.unit), Unit.unit)))) (Option.some (Sum.inl (((IntKind.wrap IntKind.i64 (HAdd.hAdd x0.1.1 (1 : Int))), Unit.unit), Unit.unit)))))))) (Option.none)) (Option.some (Sum.inr (Sum.inr (Sum.inl (Unit.unit, Unit.unit))))))) (((0 : Int), Unit.unit), Unit.unit)) (sumE (fun x0 => (Option.some (x0.1.1, Unit.unit))) (sumE (fun x0 => (Option.bind (loop (D := (Prod (Kd.T (.pair (.int .i64) .unit)) (Kd.T .unit))) (O := (Sum (Kd.T (.pair (.pair (.int .i64) .unit) .unit)) (OutT (List.cons ((Ex3.exit 2), (Sh.mk (List.nil) (List.nil) (List.nil))) (List.nil))))) (fun x1 => (cond (Decidable.decide (LT.lt x1.1.1 (Nat.cast (List.length x.1) : Int))) (cond (inB x1.1.1 (List.length x.1)) (Option.bind (GetElem?.getElem? x.1 (Int.toNat x1.1.1)) (fun x2 => (cond (upTo x1.1.1 (Nat.cast (List.length x.1) : Int)) (Option.bind (loop (D := (Prod (Kd.T (.pair (.int .i64) .unit)) (Kd.T .unit))) (O := (Sum (Kd.T (.pair (.pair (.int .i64) .unit) .unit)) (OutT (List.cons ((Ex3.exit 4), (Sh.mk (List.nil) (List.nil) (List.nil))) (List.nil))))) (fun x3 => (cond (Decidable.decide (LT.lt x3.1.1 (Nat.cast (List.length (List.take (Int.toNat x1.1.1) x.1)) : Int))) (cond (inB x3.1.1 (List.length (List.take (Int.toNat x1.1.1) x.1))) (Option.bind (GetElem?.getElem? (List.take (Int.toNat x1.1.1) x.1) (Int.toNat x3.1.1)) (fun x4 => (Option.bind (r67 (x2, (x4, Unit.unit))) (fun x5 => (cond (Bool.not x5.1) (Option.some (Sum.inr (Sum.inl (((10 : Int), Unit.unit), Unit.unit)))) (Option.some (Sum.inl (((IntKind.wrap IntKind.i64 (HAdd.hAdd x3.1.1 (1 : Int))), Unit.unit), Unit.unit)))))))) (Option.none)) (Option.some (Sum.inr (Sum.inr (Sum.inl (Unit.unit, Unit.unit))))))) (((0 : Int), Unit.unit), Unit.unit)) (sumE (fun x3 => (Option.some (Sum.inr (Sum.inl ((x3.1.1, Unit.unit), Unit.unit))))) (sumE (fun x3 => (Option.some (Sum.inl (((IntKind.wrap IntKind.i64 (HAdd.hAdd x1.1.1 (1 : Int))), Unit.unit), Unit.unit)))) (emptyE)))) (Option.none)))) (Option.none)) (Option.some (Sum.inr (Sum.inr (Sum.inl (Unit.unit, Unit.unit))))))) (((0 : Int), Unit.unit), Unit.unit)) (sumE (fun x1 => (Option.some (x1.1.1, Unit.unit))) (sumE (fun x1 => (Option.some ((0 : Int), Unit.unit))) (emptyE))))) (emptyE)))))
theorem r57_ok : PureOk Go.Proofs.Try.prog 0 (fun _ => True) 57 [(.slice (.slice (.pair (.int .i64) (.pair (.int .i64) .unit))))] [(.int .i64)] r57 :=
  pureOk_of_run (F := specOf [(66, pureSpec [(.slice (.pair (.int .i64) (.pair (.int .i64) .unit)))] [(.int .i64)] r66), (67, pureSpec [(.slice (.pair (.int .i64) (.pair (.int .i64) .unit))), (.slice (.pair (.int .i64) (.pair (.int .i64) .unit)))] [.bool] r67)]) (hs := hintOf [(4, ⟨⟨[(36, .lf (.int .i64))], [], []⟩, [(.ret, ⟨[(2, .lf (.int .i64))], [], []⟩), ((.exit 4), ⟨[], [], []⟩)]⟩), (2, ⟨⟨[(27, .lf (.int .i64))], [], []⟩, [(.ret, ⟨[(2, .lf (.int .i64))], [], []⟩), ((.exit 2), ⟨[], [], []⟩)]⟩), (0, ⟨⟨[(15, .lf (.int .i64))], [], []⟩, [(.ret, ⟨[(2, .lf (.int .i64))], [], []⟩), ((.exit 0), ⟨[], [], []⟩)]⟩)]) stays_triv (specOf_cons (PureOk.spec r66_ok) (specOf_cons (PureOk.spec r67_ok) specOf_nil)) mixed Go.Proofs.Try.func57 rfl (by kernel_rfl) (fun _ => by kernel_rfl)

/-- terrier/feat.Parts -/
noncomputable def r42 (x : (kdP [(.int .i64), (.slice (.slice (.pair (.int .i64) (.pair (.int .i64) .unit))))]).T) : Option (kdP [(.int .i64)]).T :=
  (cond (Decidable.decide (LT.lt x.1 (1 : Int))) (Option.some ((8 : Int), Unit.unit)) (cond (Decidable.decide (LT.lt (3 : Int) x.1)) (Option.some ((8 : Int), Unit.unit)) (cond (Decidable.decide (LT.lt (20 : Int) (Nat.cast (List.length x.2.1) : Int))) (Option.some ((2 : Int), Unit.unit)) (Option.bind (r54_55 (x.2.1, (Unit.unit, Unit.unit))) (fun x0 => (cond x0.1 (Option.some ((2 : Int), Unit.unit)) (cond (Decidable.decide (Eq (Nat.cast (List.length x.2.1) : Int) (0 : Int))) (Option.some ((4 : Int), Unit.unit)) (Option.bind (loop (D := (Prod (Kd.T (.pair (.int .i64) .unit)) (Kd.T .unit))) (O := (Sum (Kd.T (.pair (.pair (.int .i64) .unit) .unit)) (OutT (List.cons ((Ex3.exit 0), (Sh.mk (List.nil) (List.nil) (List.nil))) (List.nil))))) (fun x1 => (cond (Decidable.decide (LT.lt x1.1.1 (Nat.cast (List.length x.2.1) : Int))) (cond (inB x1.1.1 (List.length x.2.1)) (Option.bind (GetElem?.getElem? x.2.1 (Int.toNat x1.1.1)) (fun x2 => (Option.bind (r56 (x.1, (x2, Unit.unit))) (fun x3 => (cond (Bool.not (Decidable.decide (Eq x3.1 (0 : Int)))) (Option.some (Sum.inr (Sum.inl ((x3.1, Unit.unit), Unit.unit)))) (Option.some (Sum.inl (((IntKind.wrap IntKind.i64 (HAdd.hAdd x1.1.1 (1 : Int))), Unit.unit), Unit.unit)))))))) (Option.none)) (Option.some (Sum.inr (Sum.inr (Sum.inl (Unit.unit, Unit.unit))))))) (((0 : Int), Unit.unit), Unit.unit)) (sumE (fun x1 => (Option.some (x1.1.1, Unit.unit))) (sumE (fun x1 => (cond (Decidable.decide (Eq x.1 (3 : Int))) (Option.bind (r57 (x.2.1, Unit.unit)) (fun x2 => (Option.some (x2.1, Unit.unit)))) (Option.some ((0 : Int), Unit.unit)))) (emptyE)))))))))))
theorem r42_ok : PureOk Go.Proofs.Try.prog 0 (fun _ => True) 42 [(.int .i64), (.slice (.slice (.pair (.int .i64) (.pair (.int .i64) .unit))))] [(.int .i64)] r42 :=
  pureOk_of_run (F := specOf [(54, pickS [([55], pureSpec [(.slice (.slice (.pair (.int .i64) (.pair (.int .i64) .unit)))), (.fn 55)] [.bool] r54_55)]), (56, pureSpec [(.int .i64), (.slice (.pair (.int .i64) (.pair (.int .i64) .unit)))] [(.int .i64)] r56), (57, pureSpec [(.slice (.slice (.pair (.int .i64) (.pair (.int .i64) .unit))))] [(.int .i64)] r57)]) (hs := hintOf [(0, ⟨⟨[(26, .lf (.int .i64))], [], []⟩, [(.ret, ⟨[(4, .lf (.int .i64))], [], []⟩), ((.exit 0), ⟨[], [], []⟩)]⟩)]) stays_triv (specOf_cons (pickS_one (PureOk.spec r54_55_ok)) (specOf_cons (PureOk.spec r56_ok) (specOf_cons (PureOk.spec r57_ok) specOf_nil))) mixed Go.Proofs.Try.func42 rfl (by kernel_rfl) (fun _ => by kernel_rfl)

/-- terrier/feat.Name -/
noncomputable def r58 (x : (kdP [.str]).T) : Option (kdP [.bool]).T :=
  (Option.bind (loop (D := (Prod (Kd.T (.pair (.int .i64) .unit)) (Kd.T .unit))) (O := (Sum (Kd.T (.pair (.pair .bool .unit) .unit)) (OutT (List.cons ((Ex3.exit 0), (Sh.mk (List.nil) (List.nil) (List.nil))) (List.nil))))) (fun x0 => (cond (Decidable.decide (LT.lt x0.1.1 (Nat.cast (ByteArray.size x.1) : Int))) (Option.bind (strAt x.1 x0.1.1) (fun x1 => (cond (Decidable.decide (LE.le (97 : Int) (Nat.cast (UInt8.toNat x1) : Int))) (cond (Decidable.decide (LE.le (Nat.cast (UInt8.toNat x1) : Int) (122 : Int))) (Option.some (Sum.inl (((IntKind.wrap IntKind.i64 (HAdd.hAdd x0.1.1 (1 : Int))), Unit.unit), Unit.unit))) (cond (Decidable.decide (LT.lt (0 : Int) x0.1.1)) (cond (Decidable.decide (Eq (Nat.cast (UInt8.toNat x1) : Int) (95 : Int))) (Option.some (Sum.inl (((IntKind.wrap IntKind.i64 (HAdd.hAdd x0.1.1 (1 : Int))), Unit.unit), Unit.unit))) (cond (Decidable.decide (LE.le (48 : Int) (Nat.cast (UInt8.toNat x1) : Int))) (cond (Bool.not (Decidable.decide (LE.le (Nat.cast (UInt8.toNat x1) : Int) (57 : Int)))) (Option.some (Sum.inr (Sum.inl ((Bool.false, Unit.unit), Unit.unit)))) (Option.some (Sum.inl (((IntKind.wrap IntKind.i64 (HAdd.hAdd x0.1.1 (1 : Int))), Unit.unit), Unit.unit)))) (Option.some (Sum.inr (Sum.inl ((Bool.false, Unit.unit), Unit.unit)))))) (Option.some (Sum.inr (Sum.inl ((Bool.false, Unit.unit), Unit.unit)))))) (cond (Decidable.decide (LT.lt (0 : Int) x0.1.1)) (cond (Decidable.decide (Eq (Nat.cast (UInt8.toNat x1) : Int) (95 : Int))) (Option.some (Sum.inl (((IntKind.wrap IntKind.i64 (HAdd.hAdd x0.1.1 (1 : Int))), Unit.unit), Unit.unit))) (cond (Decidable.decide (LE.le (48 : Int) (Nat.cast (UInt8.toNat x1) : Int))) (cond (Bool.not (Decidable.decide (LE.le (Nat.cast (UInt8.toNat x1) : Int) (57 : Int)))) (Option.some (Sum.inr (Sum.inl ((Bool.false, Unit.unit), Unit.unit)))) (Option.some (Sum.inl (((IntKind.wrap IntKind.i64 (HAdd.hAdd x0.1.1 (1 : Int))), Unit.unit), Unit.unit)))) (Option.some (Sum.inr (Sum.inl ((Bool.false, Unit.unit), Unit.unit)))))) (Option.some (Sum.inr (Sum.inl ((Bool.false, Unit.unit), Unit.unit)))))))) (Option.some (Sum.inr (Sum.inr (Sum.inl (Unit.unit, Unit.unit))))))) (((0 : Int), Unit.unit), Unit.unit)) (sumE (fun x0 => (Option.some (x0.1.1, Unit.unit))) (sumE (fun x0 => (cond (Decidable.decide (LE.le (1 : Int) (Nat.cast (ByteArray.size x.1) : Int))) (Option.some ((Decidable.decide (LE.le (Nat.cast (ByteArray.size x.1) : Int) (12 : Int))), Unit.unit)) (Option.some (Bool.false, Unit.unit)))) (emptyE))))
theorem r58_ok : PureOk Go.Proofs.Try.prog 0 (fun _ => True) 58 [.str] [.bool] r58 :=
  pureOk_of_run (F := specOf []) (hs := hintOf [(0, ⟨⟨[(7, .lf (.int .i64))], [], []⟩, [(.ret, ⟨[(2, .lf .bool)], [], []⟩), ((.exit 0), ⟨[], [], []⟩)]⟩)]) stays_triv specOf_nil mixed Go.Proofs.Try.func58 rfl (by kernel_rfl) (fun _ => by kernel_rfl)

/-- terrier/value.plain -/
noncomputable def r68 (x : (kdP [.str]).T) : Option (kdP [.bool]).T :=
  (Option.bind (loop (D := (Prod (Kd.T (.pair (.int .i64) .unit)) (Kd.T .unit))) (O := (Sum (Kd.T (.pair (.pair .bool .unit) .unit)) (OutT (List.cons ((Ex3.exit 0), (Sh.mk (List.nil) (List.nil) (List.nil))) (List.nil))))) (fun x0 => (cond (Decidable.decide (LT.lt x0.1.1 (Nat.cast (ByteArray.size x.1) : Int))) (Option.bind (strAt x.1 x0.1.1) (fun x1 => (cond (Decidable.decide (LT.lt (Nat.cast (UInt8.toNat x1) : Int) (32 : Int))) (Option.some (Sum.inr (Sum.inl ((Bool.false, Unit.unit), Unit.unit)))) (Option.bind (strAt x.1 x0.1.1) (fun x2 => (cond (Decidable.decide (LT.lt (126 : Int) (Nat.cast (UInt8.toNat x2) : Int))) (Option.some (Sum.inr (Sum.inl ((Bool.false, Unit.unit), Unit.unit)))) (Option.bind (strAt x.1 x0.1.1) (fun x3 => (cond (Decidable.decide (Eq (Nat.cast (UInt8.toNat x3) : Int) (34 : Int))) (Option.some (Sum.inr (Sum.inl ((Bool.false, Unit.unit), Unit.unit)))) (Option.some (Sum.inl (((IntKind.wrap IntKind.i64 (HAdd.hAdd x0.1.1 (1 : Int))), Unit.unit), Unit.unit)))))))))))) (Option.some (Sum.inr (Sum.inr (Sum.inl (Unit.unit, Unit.unit))))))) (((0 : Int), Unit.unit), Unit.unit)) (sumE (fun x0 => (Option.some (x0.1.1, Unit.unit))) (sumE (fun x0 => (Option.some (Bool.true, Unit.unit))) (emptyE))))
theorem r68_ok : PureOk Go.Proofs.Try.prog 0 (fun _ => True) 68 [.str] [.bool] r68 :=
  pureOk_of_run (F := specOf []) (hs := hintOf [(0, ⟨⟨[(6, .lf (.int .i64))], [], []⟩, [(.ret, ⟨[(2, .lf .bool)], [], []⟩), ((.exit 0), ⟨[], [], []⟩)]⟩)]) stays_triv specOf_nil mixed Go.Proofs.Try.func68 rfl (by kernel_rfl) (fun _ => by kernel_rfl)

/-- terrier/value.Check -/
noncomputable def r59 (x : (kdP [(.pair (.int .i64) (.pair (.int .i64) (.pair .str (.pair .bool .unit))))]).T) : Option (kdP [(.int .i64)]).T :=
  (cond (Decidable.decide (LT.lt x.1.1 (0 : Int))) (Option.some ((8 : Int), Unit.unit)) (cond (Decidable.decide (LT.lt (3 : Int) x.1.1)) (Option.some ((8 : Int), Unit.unit)) (cond (Bool.not (Decidable.decide (Eq x.1.1 (1 : Int)))) (cond (Bool.not (Decidable.decide (Eq x.1.2.1 (0 : Int)))) (Option.some ((3 : Int), Unit.unit)) (cond (Bool.not (Decidable.decide (Eq x.1.1 (2 : Int)))) (cond (Bool.not (Decidable.decide (Eq x.1.2.2.1 (ByteArray.mk (List.toArray (List.nil)))))) (Option.some ((3 : Int), Unit.unit)) (cond (Bool.not (Decidable.decide (Eq x.1.1 (3 : Int)))) (cond x.1.2.2.2.1 (Option.some ((3 : Int), Unit.unit)) (cond (Decidable.decide (LT.lt x.1.2.1 (Neg.neg (1000000000000 : Int)))) (Option.some ((2 : Int), Unit.unit)) (cond (Decidable.decide (LT.lt (1000000000000 : Int) x.1.2.1)) (Option.some ((2 : Int), Unit.unit)) (cond (Decidable.decide (LT.lt (40 : Int) (Nat.cast (ByteArray.size x.1.2.2.1) : Int))) (Option.some ((2 : Int), Unit.unit)) (Option.bind (r68 (x.1.2.2.1, Unit.unit)) (fun x0 => (cond (Bool.not x0.1) (Option.some ((3 : Int), Unit.unit)) (Option.some ((0 : Int), Unit.unit))))))))) (cond (Decidable.decide (LT.lt x.1.2.1 (Neg.neg (1000000000000 : Int)))) (Option.some ((2 : Int), Unit.unit)) (cond (Decidable.decide (LT.lt (1000000000000 : Int) x.1.2.1)) (Option.some ((2 : Int), Unit.unit)) (cond (Decidable.decide (LT.lt (40 : Int) (Nat.cast (ByteArray.size x.1.2.2.1) : Int))) (Option.some ((2 : Int), Unit.unit)) (Option.bind (r68 (x.1.2.2.1, Unit.unit)) (fun x0 => (cond (Bool.not x0.1) (Option.some ((3 : Int), Unit.unit)) (Option.some ((0 : Int), Unit.unit)))))))))) (cond (Bool.not (Decidable.decide (Eq x.1.1 (3 : Int)))) (cond x.1.2.2.2.1 (Option.some ((3 : Int), Unit.unit)) (cond (Decidable.decide (LT.lt x.1.2.1 (Neg.neg (1000000000000 : Int)))) (Option.some ((2 : Int), Unit.unit)) (cond (Decidable.decide (LT.lt (1000000000000 : Int) x.1.2.1)) (Option.some ((2 : Int), Unit.unit)) (cond (Decidable.decide (LT.lt (40 : Int) (Nat.cast (ByteArray.size x.1.2.2.1) : Int))) (Option.some ((2 : Int), Unit.unit)) (Option.bind (r68 (x.1.2.2.1, Unit.unit)) (fun x0 => (cond (Bool.not x0.1) (Option.some ((3 : Int), Unit.unit)) (Option.some ((0 : Int), Unit.unit))))))))) (cond (Decidable.decide (LT.lt x.1.2.1 (Neg.neg (1000000000000 : Int)))) (Option.some ((2 : Int), Unit.unit)) (cond (Decidable.decide (LT.lt (1000000000000 : Int) x.1.2.1)) (Option.some ((2 : Int), Unit.unit)) (cond (Decidable.decide (LT.lt (40 : Int) (Nat.cast (ByteArray.size x.1.2.2.1) : Int))) (Option.some ((2 : Int), Unit.unit)) (Option.bind (r68 (x.1.2.2.1, Unit.unit)) (fun x0 => (cond (Bool.not x0.1) (Option.some ((3 : Int), Unit.unit)) (Option.some ((0 : Int), Unit.unit))))))))))) (cond (Bool.not (Decidable.decide (Eq x.1.1 (2 : Int)))) (cond (Bool.not (Decidable.decide (Eq x.1.2.2.1 (ByteArray.mk (List.toArray (List.nil)))))) (Option.some ((3 : Int), Unit.unit)) (cond (Bool.not (Decidable.decide (Eq x.1.1 (3 : Int)))) (cond x.1.2.2.2.1 (Option.some ((3 : Int), Unit.unit)) (cond (Decidable.decide (LT.lt x.1.2.1 (Neg.neg (1000000000000 : Int)))) (Option.some ((2 : Int), Unit.unit)) (cond (Decidable.decide (LT.lt (1000000000000 : Int) x.1.2.1)) (Option.some ((2 : Int), Unit.unit)) (cond (Decidable.decide (LT.lt (40 : Int) (Nat.cast (ByteArray.size x.1.2.2.1) : Int))) (Option.some ((2 : Int), Unit.unit)) (Option.bind (r68 (x.1.2.2.1, Unit.unit)) (fun x0 => (cond (Bool.not x0.1) (Option.some ((3 : Int), Unit.unit)) (Option.some ((0 : Int), Unit.unit))))))))) (cond (Decidable.decide (LT.lt x.1.2.1 (Neg.neg (1000000000000 : Int)))) (Option.some ((2 : Int), Unit.unit)) (cond (Decidable.decide (LT.lt (1000000000000 : Int) x.1.2.1)) (Option.some ((2 : Int), Unit.unit)) (cond (Decidable.decide (LT.lt (40 : Int) (Nat.cast (ByteArray.size x.1.2.2.1) : Int))) (Option.some ((2 : Int), Unit.unit)) (Option.bind (r68 (x.1.2.2.1, Unit.unit)) (fun x0 => (cond (Bool.not x0.1) (Option.some ((3 : Int), Unit.unit)) (Option.some ((0 : Int), Unit.unit)))))))))) (cond (Bool.not (Decidable.decide (Eq x.1.1 (3 : Int)))) (cond x.1.2.2.2.1 (Option.some ((3 : Int), Unit.unit)) (cond (Decidable.decide (LT.lt x.1.2.1 (Neg.neg (1000000000000 : Int)))) (Option.some ((2 : Int), Unit.unit)) (cond (Decidable.decide (LT.lt (1000000000000 : Int) x.1.2.1)) (Option.some ((2 : Int), Unit.unit)) (cond (Decidable.decide (LT.lt (40 : Int) (Nat.cast (ByteArray.size x.1.2.2.1) : Int))) (Option.some ((2 : Int), Unit.unit)) (Option.bind (r68 (x.1.2.2.1, Unit.unit)) (fun x0 => (cond (Bool.not x0.1) (Option.some ((3 : Int), Unit.unit)) (Option.some ((0 : Int), Unit.unit))))))))) (cond (Decidable.decide (LT.lt x.1.2.1 (Neg.neg (1000000000000 : Int)))) (Option.some ((2 : Int), Unit.unit)) (cond (Decidable.decide (LT.lt (1000000000000 : Int) x.1.2.1)) (Option.some ((2 : Int), Unit.unit)) (cond (Decidable.decide (LT.lt (40 : Int) (Nat.cast (ByteArray.size x.1.2.2.1) : Int))) (Option.some ((2 : Int), Unit.unit)) (Option.bind (r68 (x.1.2.2.1, Unit.unit)) (fun x0 => (cond (Bool.not x0.1) (Option.some ((3 : Int), Unit.unit)) (Option.some ((0 : Int), Unit.unit)))))))))))))
theorem r59_ok : PureOk Go.Proofs.Try.prog 0 (fun _ => True) 59 [(.pair (.int .i64) (.pair (.int .i64) (.pair .str (.pair .bool .unit))))] [(.int .i64)] r59 :=
  pureOk_of_run (F := specOf [(68, pureSpec [.str] [.bool] r68)]) (hs := hintOf []) stays_triv (specOf_cons (PureOk.spec r68_ok) specOf_nil) mixed Go.Proofs.Try.func59 rfl (by kernel_rfl) (fun _ => by kernel_rfl)

/-- terrier/feat.Attrs -/
noncomputable def r43 (x : (kdP [(.slice (.pair .str (.pair (.pair (.int .i64) (.pair (.int .i64) (.pair .str (.pair .bool .unit)))) .unit))), .bool]).T) : Option (kdP [(.int .i64)]).T :=
  (cond (Decidable.decide (LT.lt (8 : Int) (Nat.cast (List.length x.1) : Int))) (Option.some ((2 : Int), Unit.unit)) (Option.bind (loop (D := (Prod (Kd.T (.pair (.int .i64) .unit)) (Kd.T .unit))) (O := (Sum (Kd.T (.pair (.pair (.int .i64) .unit) .unit)) (OutT (List.cons ((Ex3.exit 0), (Sh.mk (List.nil) (List.nil) (List.nil))) (List.nil))))) (fun x0 => (cond (Decidable.decide (LT.lt x0.1.1 (Nat.cast (List.length x.1) : Int))) (cond (inB x0.1.1 (List.length x.1)) (Option.bind (GetElem?.getElem? x.1 (Int.toNat x0.1.1)) (fun x1 => (Option.bind (r58 (x1.1, Unit.unit)) (fun x2 => (cond (Bool.not x2.1) (Option.some (Sum.inr (Sum.inl (((16 : Int), Unit.unit), Unit.unit)))) (cond (Decidable.decide (LT.lt (0 : Int) x0.1.1)) (cond (inB (IntKind.wrap IntKind.i64 (HSub.hSub x0.1.1 (1 : Int))) (List.length x.1)) (Option.bind (GetElem?.getElem? x.1 (Int.toNat (IntKind.wrap IntKind.i64 (HSub.hSub x0.1.1 (1 : Int))))) (fun x3 => (cond (Bool.not (strLt x3.1 x1.1)) (Option.some (Sum.inr (Sum.inl (((9 : Int), Unit.unit), Unit.unit)))) (Option.bind (r59 ((x1.2.1.1, (x1.2.1.2.1, (x1.2.1.2.2.1, (x1.2.1.2.2.2.1, Unit.unit)))), Unit.unit)) (fun x4 => (cond (Bool.not (Decidable.decide (Eq x4.1 (0 : Int)))) (Option.some (Sum.inr (Sum.inl ((x4.1, Unit.unit), Unit.unit)))) (cond (Decidable.decide (Eq x1.2.1.1 (0 : Int))) (cond (Bool.not x.2.1) (Option.some (Sum.inr (Sum.inl (((3 : Int), Unit.unit), Unit.unit)))) (Option.some (Sum.inl (((IntKind.wrap IntKind.i64 (HAdd.hAdd x0.1.1 (1 : Int))), Unit.unit), Unit.unit)))) (Option.some (Sum.inl (((IntKind.wrap IntKind.i64 (HAdd.hAdd x0.1.1 (1 : Int))), Unit.unit), Unit.unit)))))))))) (Option.none)) (Option.bind (r59 ((x1.2.1.1, (x1.2.1.2.1, (x1.2.1.2.2.1, (x1.2.1.2.2.2.1, Unit.unit)))), Unit.unit)) (fun x3 => (cond (Bool.not (Decidable.decide (Eq x3.1 (0 : Int)))) (Option.some (Sum.inr (Sum.inl ((x3.1, Unit.unit), Unit.unit)))) (cond (Decidable.decide (Eq x1.2.1.1 (0 : Int))) (cond (Bool.not x.2.1) (Option.some (Sum.inr (Sum.inl (((3 : Int), Unit.unit), Unit.unit)))) (Option.some (Sum.inl (((IntKind.wrap IntKind.i64 (HAdd.hAdd x0.1.1 (1 : Int))), Unit.unit), Unit.unit)))) (Option.some (Sum.inl (((IntKind.wrap IntKind.i64 (HAdd.hAdd x0.1.1 (1 : Int))), Unit.unit), Unit.unit))))))))))))) (Option.none)) (Option.some (Sum.inr (Sum.inr (Sum.inl (Unit.unit, Unit.unit))))))) (((0 : Int), Unit.unit), Unit.unit)) (sumE (fun x0 => (Option.some (x0.1.1, Unit.unit))) (sumE (fun x0 => (Option.some ((0 : Int), Unit.unit))) (emptyE)))))
theorem r43_ok : PureOk Go.Proofs.Try.prog 0 (fun _ => True) 43 [(.slice (.pair .str (.pair (.pair (.int .i64) (.pair (.int .i64) (.pair .str (.pair .bool .unit)))) .unit))), .bool] [(.int .i64)] r43 :=
  pureOk_of_run (F := specOf [(58, pureSpec [.str] [.bool] r58), (59, pureSpec [(.pair (.int .i64) (.pair (.int .i64) (.pair .str (.pair .bool .unit))))] [(.int .i64)] r59)]) (hs := hintOf [(0, ⟨⟨[(13, .lf (.int .i64))], [], []⟩, [(.ret, ⟨[(4, .lf (.int .i64))], [], []⟩), ((.exit 0), ⟨[], [], []⟩)]⟩)]) stays_triv (specOf_cons (PureOk.spec r58_ok) (specOf_cons (PureOk.spec r59_ok) specOf_nil)) mixed Go.Proofs.Try.func43 rfl (by kernel_rfl) (fun _ => by kernel_rfl)

/-- terrier/feat.Check -/
noncomputable def r29 (x : (kdP [(.pair (.int .i64) (.pair (.int .i64) (.pair (.slice (.slice (.pair (.int .i64) (.pair (.int .i64) .unit)))) (.pair (.slice (.pair .str (.pair (.pair (.int .i64) (.pair (.int .i64) (.pair .str (.pair .bool .unit)))) .unit))) (.pair (.int .i64) (.pair (.int .i64) .unit))))))]).T) : Option (kdP [(.int .i64)]).T :=
  (cond (Decidable.decide (LT.lt x.1.1 (1 : Int))) (Option.some ((1 : Int), Unit.unit)) (cond (Decidable.decide (LT.lt (1073741824 : Int) x.1.1)) (Option.some ((1 : Int), Unit.unit)) (Option.bind (r42 (x.1.2.1, (x.1.2.2.1, Unit.unit))) (fun x0 => (cond (Bool.not (Decidable.decide (Eq x0.1 (0 : Int)))) (Option.some (x0.1, Unit.unit)) (Option.bind (r43 (x.1.2.2.2.1, (Bool.false, Unit.unit))) (fun x1 => (cond (Bool.not (Decidable.decide (Eq x1.1 (0 : Int)))) (Option.some (x1.1, Unit.unit)) (cond (Decidable.decide (LT.lt x.1.2.2.2.2.1 (0 : Int))) (Option.some ((1 : Int), Unit.unit)) (cond (Decidable.decide (LT.lt (1073741824 : Int) x.1.2.2.2.2.2.1)) (Option.some ((1 : Int), Unit.unit)) (cond (Decidable.decide (LE.le x.1.2.2.2.2.2.1 x.1.2.2.2.2.1)) (Option.some ((1 : Int), Unit.unit)) (Option.some ((0 : Int), Unit.unit)))))))))))))
theorem r29_ok : PureOk Go.Proofs.Try.prog 0 (fun _ => True) 29 [(.pair (.int .i64) (.pair (.int .i64) (.pair (.slice (.slice (.pair (.int .i64) (.pair (.int .i64) .unit)))) (.pair (.slice (.pair .str (.pair (.pair (.int .i64) (.pair (.int .i64) (.pair .str (.pair .bool .unit)))) .unit))) (.pair (.int .i64) (.pair (.int .i64) .unit))))))] [(.int .i64)] r29 :=
  pureOk_of_run (F := specOf [(42, pureSpec [(.int .i64), (.slice (.slice (.pair (.int .i64) (.pair (.int .i64) .unit))))] [(.int .i64)] r42), (43, pureSpec [(.slice (.pair .str (.pair (.pair (.int .i64) (.pair (.int .i64) (.pair .str (.pair .bool .unit)))) .unit))), .bool] [(.int .i64)] r43)]) (hs := hintOf []) stays_triv (specOf_cons (PureOk.spec r42_ok) (specOf_cons (PureOk.spec r43_ok) specOf_nil)) mixed Go.Proofs.Try.func29 rfl (by kernel_rfl) (fun _ => by kernel_rfl)

/-- terrier/feat.All -/
noncomputable def r20 (x : (kdP [(.slice (.pair (.int .i64) (.pair (.int .i64) (.pair (.slice (.slice (.pair (.int .i64) (.pair (.int .i64) .unit)))) (.pair (.slice (.pair .str (.pair (.pair (.int .i64) (.pair (.int .i64) (.pair .str (.pair .bool .unit)))) .unit))) (.pair (.int .i64) (.pair (.int .i64) .unit)))))))]).T) : Option (kdP [(.int .i64)]).T :=
  (cond (Decidable.decide (LT.lt (200 : Int) (Nat.cast (List.length x.1) : Int))) (Option.some ((2 : Int), Unit.unit)) (Option.bind (loop (D := (Prod (Kd.T (.pair (.int .i64) .unit)) (Kd.T .unit))) (O := (Sum (Kd.T (.pair (.pair (.int .i64) .unit) .unit)) (OutT (List.cons ((Ex3.exit 0), (Sh.mk (List.nil) (List.nil) (List.nil))) (List.nil))))) (fun x0 => (cond (Decidable.decide (LT.lt x0.1.1 (Nat.cast (List.length x.1) : Int))) (cond (inB x0.1.1 (List.length x.1)) (Option.bind (GetElem?.getElem? x.1 (Int.toNat x0.1.1)) (fun x1 => (Option.bind (r29 ((x1.1, (x1.2.1, (x1.2.2.1, (x1.2.2.2.1, (x1.2.2.2.2.1, (x1.2.2.2.2.2.1, Unit.unit)))))), Unit.unit)) (fun x2 => (cond (Bool.not (Decidable.decide (Eq x2.1 (0 : Int)))) (Option.some (Sum.inr (Sum.inl ((x2.1, Unit.unit), Unit.unit)))) (cond (Decidable.decide (LT.lt (0 : Int) x0.1.1)) (cond (inB (IntKind.wrap IntKind.i64 (HSub.hSub x0.1.1 (1 : Int))) (List.length x.1)) (Option.bind (GetElem?.getElem? x.1 (Int.toNat (IntKind.wrap IntKind.i64 (HSub.hSub x0.1.1 (1 : Int))))) (fun x3 => (cond (Decidable.decide (LE.le x1.1 x3.1)) (Option.some (Sum.inr (Sum.inl (((9 : Int), Unit.unit), Unit.unit)))) (Option.some (Sum.inl (((IntKind.wrap IntKind.i64 (HAdd.hAdd x0.1.1 (1 : Int))), Unit.unit), Unit.unit)))))) (Option.none)) (Option.some (Sum.inl (((IntKind.wrap IntKind.i64 (HAdd.hAdd x0.1.1 (1 : Int))), Unit.unit), Unit.unit))))))))) (Option.none)) (Option.some (Sum.inr (Sum.inr (Sum.inl (Unit.unit, Unit.unit))))))) (((0 : Int), Unit.unit), Unit.unit)) (sumE (fun x0 => (Option.some (x0.1.1, Unit.unit))) (sumE (fun x0 => (Option.some ((0 : Int), Unit.unit))) (emptyE)))))
theorem r20_ok : PureOk Go.Proofs.Try.prog 0 (fun _ => True) 20 [(.slice (.pair (.int .i64) (.pair (.int .i64) (.pair (.slice (.slice (.pair (.int .i64) (.pair (.int .i64) .unit)))) (.pair (.slice (.pair .str (.pair (.pair (.int .i64) (.pair (.int .i64) (.pair .str (.pair .bool .unit)))) .unit))) (.pair (.int .i64) (.pair (.int .i64) .unit)))))))] [(.int .i64)] r20 :=
  pureOk_of_run (F := specOf [(29, pureSpec [(.pair (.int .i64) (.pair (.int .i64) (.pair (.slice (.slice (.pair (.int .i64) (.pair (.int .i64) .unit)))) (.pair (.slice (.pair .str (.pair (.pair (.int .i64) (.pair (.int .i64) (.pair .str (.pair .bool .unit)))) .unit))) (.pair (.int .i64) (.pair (.int .i64) .unit))))))] [(.int .i64)] r29)]) (hs := hintOf [(0, ⟨⟨[(11, .lf (.int .i64))], [], []⟩, [(.ret, ⟨[(2, .lf (.int .i64))], [], []⟩), ((.exit 0), ⟨[], [], []⟩)]⟩)]) stays_triv (specOf_cons (PureOk.spec r29_ok) specOf_nil) mixed Go.Proofs.Try.func20 rfl (by kernel_rfl) (fun _ => by kernel_rfl)

/-- terrier/terrkeep2.begun -/
noncomputable def r16 (x : (kdP [(.slice (.int .i64))]).T) : Option (kdP [(.slice (.pair (.int .i64) (.pair (.int .i64) (.pair (.slice (.slice (.pair (.int .i64) (.pair (.int .i64) .unit)))) (.pair (.slice (.pair .str (.pair (.pair (.int .i64) (.pair (.int .i64) (.pair .str (.pair .bool .unit)))) .unit))) (.pair (.int .i64) (.pair (.int .i64) .unit))))))), .bool]).T :=
  (Option.bind (r28 (x.1, Unit.unit)) (fun x0 => (Option.bind (r20 (x0.1, Unit.unit)) (fun x1 => (cond (Decidable.decide (Eq x1.1 (0 : Int))) (Option.bind (r29 (((0 : Int), ((0 : Int), ((List.nil), ((List.nil), ((0 : Int), ((0 : Int), Unit.unit)))))), Unit.unit)) (fun x2 => (Option.some (x0.1, ((Decidable.decide (Eq x2.1 (1 : Int))), Unit.unit))))) (Option.some (x0.1, (Bool.false, Unit.unit))))))))
theorem r16_ok : PureOk Go.Proofs.Try.prog 0 (fun _ => True) 16 [(.slice (.int .i64))] [(.slice (.pair (.int .i64) (.pair (.int .i64) (.pair (.slice (.slice (.pair (.int .i64) (.pair (.int .i64) .unit)))) (.pair (.slice (.pair .str (.pair (.pair (.int .i64) (.pair (.int .i64) (.pair .str (.pair .bool .unit)))) .unit))) (.pair (.int .i64) (.pair (.int .i64) .unit))))))), .bool] r16 :=
  pureOk_of_run (F := specOf [(28, pureSpec [(.slice (.int .i64))] [(.slice (.pair (.int .i64) (.pair (.int .i64) (.pair (.slice (.slice (.pair (.int .i64) (.pair (.int .i64) .unit)))) (.pair (.slice (.pair .str (.pair (.pair (.int .i64) (.pair (.int .i64) (.pair .str (.pair .bool .unit)))) .unit))) (.pair (.int .i64) (.pair (.int .i64) .unit)))))))] r28), (20, pureSpec [(.slice (.pair (.int .i64) (.pair (.int .i64) (.pair (.slice (.slice (.pair (.int .i64) (.pair (.int .i64) .unit)))) (.pair (.slice (.pair .str (.pair (.pair (.int .i64) (.pair (.int .i64) (.pair .str (.pair .bool .unit)))) .unit))) (.pair (.int .i64) (.pair (.int .i64) .unit)))))))] [(.int .i64)] r20), (29, pureSpec [(.pair (.int .i64) (.pair (.int .i64) (.pair (.slice (.slice (.pair (.int .i64) (.pair (.int .i64) .unit)))) (.pair (.slice (.pair .str (.pair (.pair (.int .i64) (.pair (.int .i64) (.pair .str (.pair .bool .unit)))) .unit))) (.pair (.int .i64) (.pair (.int .i64) .unit))))))] [(.int .i64)] r29)]) (hs := hintOf []) stays_triv (specOf_cons (PureOk.spec r28_ok) (specOf_cons (PureOk.spec r20_ok) (specOf_cons (PureOk.spec r29_ok) specOf_nil))) mixed Go.Proofs.Try.func16 rfl (by kernel_rfl) (fun _ => by kernel_rfl)

/-- slices.Equal[[]terrier/api.Attr,terrier/api.Attr] -/
noncomputable def r33 (x : (kdP [(.slice (.pair .str (.pair (.pair (.int .i64) (.pair (.int .i64) (.pair .str (.pair .bool .unit)))) .unit))), (.slice (.pair .str (.pair (.pair (.int .i64) (.pair (.int .i64) (.pair .str (.pair .bool .unit)))) .unit)))]).T) : Option (kdP [.bool]).T :=
  (cond (Bool.not (Decidable.decide (Eq (Nat.cast (List.length x.1) : Int) (Nat.cast (List.length x.2.1) : Int)))) (Option.some (Bool.false, Unit.unit)) (Option.bind (loop (D := (Prod (Kd.T (.pair (.int .i64) .unit)) (Kd.T .unit))) (O := (Sum (Kd.T (.pair (.pair .bool .unit) .unit)) (OutT (List.cons ((Ex3.exit 0), (Sh.mk (List.nil) (List.nil) (List.nil))) (List.nil))))) (fun x0 => (cond (Decidable.decide (LT.lt x0.1.1 (Nat.cast (List.length x.1) : Int))) (cond (inB x0.1.1 (List.length x.1)) (Option.bind (GetElem?.getElem? x.1 (Int.toNat x0.1.1)) (fun x1 => (cond (inB x0.1.1 (List.length x.2.1)) (Option.bind (GetElem?.getElem? x.2.1 (Int.toNat x0.1.1)) (fun x2 => (cond (Bool.not (Bool.and (Decidable.decide (Eq x1.1 x2.1)) (Bool.and (Decidable.decide (Eq x1.2.1.1 x2.2.1.1)) (Bool.and (Decidable.decide (Eq x1.2.1.2.1 x2.2.1.2.1)) (Bool.and (Decidable.decide (Eq x1.2.1.2.2.1 x2.2.1.2.2.1)) (Decidable.decide (Eq x1.2.1.2.2.2.1 x2.2.1.2.2.2.1))))))) (Option.some (Sum.inr (Sum.inl ((Bool.false, Unit.unit), Unit.unit)))) (Option.some (Sum.inl (((IntKind.wrap IntKind.i64 (HAdd.hAdd x0.1.1 (1 : Int))), Unit.unit), Unit.unit)))))) (Option.none)))) (Option.none)) (Option.some (Sum.inr (Sum.inr (Sum.inl (Unit.unit, Unit.unit))))))) (((0 : Int), Unit.unit), Unit.unit)) (sumE (fun x0 => (Option.some (x0.1.1, Unit.unit))) (sumE (fun x0 => (Option.some (Bool.true, Unit.unit))) (emptyE)))))
theorem r33_ok : PureOk Go.Proofs.Try.prog 0 (fun _ => True) 33 [(.slice (.pair .str (.pair (.pair (.int .i64) (.pair (.int .i64) (.pair .str (.pair .bool .unit)))) .unit))), (.slice (.pair .str (.pair (.pair (.int .i64) (.pair (.int .i64) (.pair .str (.pair .bool .unit)))) .unit)))] [.bool] r33 :=
  pureOk_of_run (F := specOf []) (hs := hintOf [(0, ⟨⟨[(13, .lf (.int .i64))], [], []⟩, [(.ret, ⟨[(4, .lf .bool)], [], []⟩), ((.exit 0), ⟨[], [], []⟩)]⟩)]) stays_triv specOf_nil mixed Go.Proofs.Try.func33 rfl (by kernel_rfl) (fun _ => by kernel_rfl)

/-- slices.Equal[[]terrier/api.Point,terrier/api.Point] -/
noncomputable def r35 (x : (kdP [(.slice (.pair (.int .i64) (.pair (.int .i64) .unit))), (.slice (.pair (.int .i64) (.pair (.int .i64) .unit)))]).T) : Option (kdP [.bool]).T :=
  (cond (Bool.not (Decidable.decide (Eq (Nat.cast (List.length x.1) : Int) (Nat.cast (List.length x.2.1) : Int)))) (Option.some (Bool.false, Unit.unit)) (Option.bind (loop (D := (Prod (Kd.T (.pair (.int .i64) .unit)) (Kd.T .unit))) (O := (Sum (Kd.T (.pair (.pair .bool .unit) .unit)) (OutT (List.cons ((Ex3.exit 0), (Sh.mk (List.nil) (List.nil) (List.nil))) (List.nil))))) (fun x0 => (cond (Decidable.decide (LT.lt x0.1.1 (Nat.cast (List.length x.1) : Int))) (cond (inB x0.1.1 (List.length x.1)) (Option.bind (GetElem?.getElem? x.1 (Int.toNat x0.1.1)) (fun x1 => (cond (inB x0.1.1 (List.length x.2.1)) (Option.bind (GetElem?.getElem? x.2.1 (Int.toNat x0.1.1)) (fun x2 => (cond (Bool.not (Bool.and (Decidable.decide (Eq x1.1 x2.1)) (Decidable.decide (Eq x1.2.1 x2.2.1)))) (Option.some (Sum.inr (Sum.inl ((Bool.false, Unit.unit), Unit.unit)))) (Option.some (Sum.inl (((IntKind.wrap IntKind.i64 (HAdd.hAdd x0.1.1 (1 : Int))), Unit.unit), Unit.unit)))))) (Option.none)))) (Option.none)) (Option.some (Sum.inr (Sum.inr (Sum.inl (Unit.unit, Unit.unit))))))) (((0 : Int), Unit.unit), Unit.unit)) (sumE (fun x0 => (Option.some (x0.1.1, Unit.unit))) (sumE (fun x0 => (Option.some (Bool.true, Unit.unit))) (emptyE)))))
theorem r35_ok : PureOk Go.Proofs.Try.prog 0 (fun _ => True) 35 [(.slice (.pair (.int .i64) (.pair (.int .i64) .unit))), (.slice (.pair (.int .i64) (.pair (.int .i64) .unit)))] [.bool] r35 :=
  pureOk_of_run (F := specOf []) (hs := hintOf [(0, ⟨⟨[(13, .lf (.int .i64))], [], []⟩, [(.ret, ⟨[(4, .lf .bool)], [], []⟩), ((.exit 0), ⟨[], [], []⟩)]⟩)]) stays_triv specOf_nil mixed Go.Proofs.Try.func35 rfl (by kernel_rfl) (fun _ => by kernel_rfl)

/-- slices.EqualFunc[[][]terrier/api.Point,[][]terrier/api.Point,[]terrier/api.Point,[]terrier/api.Point] -/
noncomputable def r34_35 (x : (kdP [(.slice (.slice (.pair (.int .i64) (.pair (.int .i64) .unit)))), (.slice (.slice (.pair (.int .i64) (.pair (.int .i64) .unit)))), (.fn 35)]).T) : Option (kdP [.bool]).T :=
  (cond (Bool.not (Decidable.decide (Eq (Nat.cast (List.length x.1) : Int) (Nat.cast (List.length x.2.1) : Int)))) (Option.some (Bool.false, Unit.unit)) (Option.bind (loop (D := (Prod (Kd.T (.pair (.int .i64) .unit)) (Kd.T .unit))) (O := (Sum (Kd.T (.pair (.pair .bool .unit) .unit)) (OutT (List.cons ((Ex3.exit 0), (Sh.mk (List.nil) (List.nil) (List.nil))) (List.nil))))) (fun x0 => (cond (Decidable.decide (LT.lt x0.1.1 (Nat.cast (List.length x.1) : Int))) (cond (inB x0.1.1 (List.length x.1)) (Option.bind (GetElem?.getElem? x.1 (Int.toNat x0.1.1)) (fun x1 => (cond (inB x0.1.1 (List.length x.2.1)) (Option.bind (GetElem?.getElem? x.2.1 (Int.toNat x0.1.1)) (fun x2 => (Option.bind (r35 (x1, (x2, Unit.unit))) (fun x3 => (cond (Bool.not x3.1) (Option.some (Sum.inr (Sum.inl ((Bool.false, Unit.unit), Unit.unit)))) (Option.some (Sum.inl (((IntKind.wrap IntKind.i64 (HAdd.hAdd x0.1.1 (1 : Int))), Unit.unit), Unit.unit)))))))) (Option.none)))) (Option.none)) (Option.some (Sum.inr (Sum.inr (Sum.inl (Unit.unit, Unit.unit))))))) (((0 : Int), Unit.unit), Unit.unit)) (sumE (fun x0 => (Option.some (x0.1.1, Unit.unit))) (sumE (fun x0 => (Option.some (Bool.true, Unit.unit))) (emptyE)))))
theorem r34_35_ok : PureOk Go.Proofs.Try.prog 0 (fun _ => True) 34 [(.slice (.slice (.pair (.int .i64) (.pair (.int .i64) .unit)))), (.slice (.slice (.pair (.int .i64) (.pair (.int .i64) .unit)))), (.fn 35)] [.bool] r34_35 :=
  pureOk_of_run (F := specOf [(35, pureSpec [(.slice (.pair (.int .i64) (.pair (.int .i64) .unit))), (.slice (.pair (.int .i64) (.pair (.int .i64) .unit)))] [.bool] r35)]) (hs := hintOf [(0, ⟨⟨[(17, .lf (.int .i64))], [], []⟩, [(.ret, ⟨[(6, .lf .bool)], [], []⟩), ((.exit 0), ⟨[], [], []⟩)]⟩)]) stays_triv (specOf_cons (PureOk.spec r35_ok) specOf_nil) mixed Go.Proofs.Try.func34 rfl (by kernel_rfl) (fun _ => by kernel_rfl)

/-- terrier/feat.Same -/
noncomputable def r19 (x : (kdP [(.pair (.int .i64) (.pair (.int .i64) (.pair (.slice (.slice (.pair (.int .i64) (.pair (.int .i64) .unit)))) (.pair (.slice (.pair .str (.pair (.pair (.int .i64) (.pair (.int .i64) (.pair .str (.pair .bool .unit)))) .unit))) (.pair (.int .i64) (.pair (.int .i64) .unit)))))), (.pair (.int .i64) (.pair (.int .i64) (.pair (.slice (.slice (.pair (.int .i64) (.pair (.int .i64) .unit)))) (.pair (.slice (.pair .str (.pair (.pair (.int .i64) (.pair (.int .i64) (.pair .str (.pair .bool .unit)))) .unit))) (.pair (.int .i64) (.pair (.int .i64) .unit))))))]).T) : Option (kdP [.bool]).T :=
  (cond (Decidable.decide (Eq x.1.1 x.2.1.1)) (cond (Decidable.decide (Eq x.1.2.1 x.2.1.2.1)) (cond (Decidable.decide (Eq x.1.2.2.2.2.1 x.2.1.2.2.2.2.1)) (cond (Decidable.decide (Eq x.1.2.2.2.2.2.1 x.2.1.2.2.2.2.2.1)) (Option.bind (r33 (x.1.2.2.2.1, (x.2.1.2.2.2.1, Unit.unit))) (fun x0 => (cond x0.1 (Option.bind (r34_35 (x.1.2.2.1, (x.2.1.2.2.1, (Unit.unit, Unit.unit)))) (fun x1 => (Option.some (x1.1, Unit.unit)))) (Option.some (Bool.false, Unit.unit))))) (Option.some (Bool.false, Unit.unit))) (Option.some (Bool.false, Unit.unit))) (Option.some (Bool.false, Unit.unit))) (Option.some (Bool.false, Unit.unit)))
theorem r19_ok : PureOk Go.Proofs.Try.prog 0 (fun _ => True) 19 [(.pair (.int .i64) (.pair (.int .i64) (.pair (.slice (.slice (.pair (.int .i64) (.pair (.int .i64) .unit)))) (.pair (.slice (.pair .str (.pair (.pair (.int .i64) (.pair (.int .i64) (.pair .str (.pair .bool .unit)))) .unit))) (.pair (.int .i64) (.pair (.int .i64) .unit)))))), (.pair (.int .i64) (.pair (.int .i64) (.pair (.slice (.slice (.pair (.int .i64) (.pair (.int .i64) .unit)))) (.pair (.slice (.pair .str (.pair (.pair (.int .i64) (.pair (.int .i64) (.pair .str (.pair .bool .unit)))) .unit))) (.pair (.int .i64) (.pair (.int .i64) .unit))))))] [.bool] r19 :=
  pureOk_of_run (F := specOf [(33, pureSpec [(.slice (.pair .str (.pair (.pair (.int .i64) (.pair (.int .i64) (.pair .str (.pair .bool .unit)))) .unit))), (.slice (.pair .str (.pair (.pair (.int .i64) (.pair (.int .i64) (.pair .str (.pair .bool .unit)))) .unit)))] [.bool] r33), (34, pickS [([35], pureSpec [(.slice (.slice (.pair (.int .i64) (.pair (.int .i64) .unit)))), (.slice (.slice (.pair (.int .i64) (.pair (.int .i64) .unit)))), (.fn 35)] [.bool] r34_35)])]) (hs := hintOf []) stays_triv (specOf_cons (PureOk.spec r33_ok) (specOf_cons (pickS_one (PureOk.spec r34_35_ok)) specOf_nil)) mixed Go.Proofs.Try.func19 rfl (by kernel_rfl) (fun _ => by kernel_rfl)

/-- (*terrier/bin.writer).num -/
noncomputable def r36 (x : (kdP [(.slice (.int .i64))]).T) (d : (kdL [.own (.int .u8)]).T) : Option ((kdP []).T × (kdL [.own (.int .u8)]).T) :=
  (Option.bind (loop (D := (Prod (Kd.T (.pair (.int .i64) (.pair (.slice (.int .u8)) .unit))) (Kd.T .unit))) (O := (Sum (Kd.T (.pair (.pair (.slice (.int .u8)) .unit) .unit)) (OutT (List.nil)))) (fun x0 => (cond (Decidable.decide (LT.lt x0.1.1 (Nat.cast (List.length x.1) : Int))) (cond (inB x0.1.1 (List.length x.1)) (Option.bind (GetElem?.getElem? x.1 (Int.toNat x0.1.1)) (fun x1 => (Option.bind (loop (D := (Prod (Kd.T (.pair (.int .u64) (.pair (.slice (.int .u8)) .unit))) (Kd.T .unit))) (O := (Sum (Kd.T (.pair (.pair (.int .u64) (.pair (.slice (.int .u8)) .unit)) .unit)) (OutT (List.nil)))) (fun x2 => (cond (Decidable.decide (LE.le (128 : Int) x2.1.1)) (cond (fits (HAdd.hAdd (List.length x2.1.2.1) (List.length (List.cons (IntKind.wrap IntKind.u8 (Nat.cast (BitVec.toNat (HOr.hOr (BitVec.ofInt 8 (IntKind.wrap IntKind.u8 x2.1.1)) (BitVec.ofInt 8 (128 : Int)))) : Int)) (List.nil)))) 1) (Option.some (Sum.inl (((Int.fdiv x2.1.1 (128 : Int)), ((HAppend.hAppend x2.1.2.1 (List.cons (IntKind.wrap IntKind.u8 (Nat.cast (BitVec.toNat (HOr.hOr (BitVec.ofInt 8 (IntKind.wrap IntKind.u8 x2.1.1)) (BitVec.ofInt 8 (128 : Int)))) : Int)) (List.nil))), Unit.unit)), Unit.unit))) (Option.none)) (Option.some (Sum.inr (Sum.inl ((x2.1.1, (x2.1.2.1, Unit.unit)), Unit.unit)))))) (((IntKind.wrap IntKind.u64 (Nat.cast (BitVec.toNat (HXor.hXor (BitVec.ofInt 64 (IntKind.wrap IntKind.u64 (HMul.hMul (IntKind.wrap IntKind.u64 x1) (2 : Int)))) (BitVec.ofInt 64 (IntKind.wrap IntKind.u64 (Int.fdiv x1 (9223372036854775808 : Int)))))) : Int)), (x0.1.2.1, Unit.unit)), Unit.unit)) (sumE (fun x2 => (cond (fits (HAdd.hAdd (List.length x2.1.2.1) (List.length (List.cons (IntKind.wrap IntKind.u8 x2.1.1) (List.nil)))) 1) (Option.some (Sum.inl (((IntKind.wrap IntKind.i64 (HAdd.hAdd x0.1.1 (1 : Int))), ((HAppend.hAppend x2.1.2.1 (List.cons (IntKind.wrap IntKind.u8 x2.1.1) (List.nil))), Unit.unit)), Unit.unit))) (Option.none))) (emptyE))))) (Option.none)) (Option.some (Sum.inr (Sum.inl ((x0.1.2.1, Unit.unit), Unit.unit)))))) (((0 : Int), (d.1, Unit.unit)), Unit.unit)) (sumE (fun x0 => (Option.some (Unit.unit, (x0.1.1, Unit.unit)))) (emptyE)))
theorem r36_ok : SpecOk Go.Proofs.Try.prog 0 (fun _ => True) 36 (memSpec [.ptr 0 0, .dat (.slice (.int .i64))] [(0, [.own (.int .u8)])] [(0, [.own (.int .u8)])] [] r36) :=
  memSpec_ok (F := specOf []) (hs := hintOf [(2, ⟨⟨[(6, .lf (.int .u64))], [(0, [.own (.int .u8)])], []⟩, [((.exit 2), ⟨[(6, .lf (.int .u64))], [(0, [.own (.int .u8)])], []⟩)]⟩), (0, ⟨⟨[(9, .lf (.int .i64))], [(0, [.own (.int .u8)])], []⟩, [((.exit 0), ⟨[], [(0, [.own (.int .u8)])], []⟩)]⟩)]) stays_triv specOf_nil mixed Go.Proofs.Try.func36 rfl (by kernel_rfl) (by kernel_rfl) (fun _ _ => by kernel_rfl)

/-- (*terrier/bin.writer).text -/
noncomputable def r47 (x : (kdP [.str]).T) (d : (kdL [.own (.int .u8)]).T) : Option ((kdP []).T × (kdL [.own (.int .u8)]).T) :=
  (Option.bind (r36 ((List.cons (Nat.cast (ByteArray.size x.1) : Int) (List.nil)), Unit.unit) (d.1, Unit.unit)) (fun x0 => (cond (fits (HAdd.hAdd (List.length x0.2.1) (List.length (bytesOf x.1))) 1) (Option.some (Unit.unit, ((HAppend.hAppend x0.2.1 (bytesOf x.1)), Unit.unit))) (Option.none))))
theorem r47_ok : SpecOk Go.Proofs.Try.prog 0 (fun _ => True) 47 (memSpec [.ptr 0 0, .dat .str] [(0, [.own (.int .u8)])] [(0, [.own (.int .u8)])] [] r47) :=
  memSpec_ok (F := specOf [(36, memSpec [.ptr 0 0, .dat (.slice (.int .i64))] [(0, [.own (.int .u8)])] [(0, [.own (.int .u8)])] [] r36)]) (hs := hintOf []) stays_triv (specOf_cons r36_ok specOf_nil) mixed Go.Proofs.Try.func47 rfl (by kernel_rfl) (by kernel_rfl) (fun _ _ => by kernel_rfl)

/-- (*terrier/bin.writer).feature -/
noncomputable def r37 (x : (kdP [(.pair (.int .i64) (.pair (.int .i64) (.pair (.slice (.slice (.pair (.int .i64) (.pair (.int .i64) .unit)))) (.pair (.slice (.pair .str (.pair (.pair (.int .i64) (.pair (.int .i64) (.pair .str (.pair .bool .unit)))) .unit))) (.pair (.int .i64) (.pair (.int .i64) .unit)))))), (.int .i64)]).T) (d : (kdL [.own (.int .u8)]).T) : Option ((kdP []).T × (kdL [.own (.int .u8)]).T) :=
  (Option.bind (r36 ((List.cons (IntKind.wrap IntKind.i64 (HSub.hSub x.1.1 x.2.1)) (List.cons x.1.2.1 (List.cons x.1.2.2.2.2.1 (List.cons (IntKind.wrap IntKind.i64 (HSub.hSub x.1.2.2.2.2.2.1 x.1.2.2.2.2.1)) (List.cons (Nat.cast (List.length x.1.2.2.1) : Int) (List.nil)))))), Unit.unit) (d.1, Unit.unit)) (fun x0 => (Option.bind (loop (D := (Prod (Kd.T (.pair (.int .i64) (.pair (.int .i64) (.pair (.int .i64) (.pair (.slice (.int .u8)) .unit))))) (Kd.T .unit))) (O := (Sum (Kd.T (.pair (.pair (.int .i64) (.pair (.int .i64) (.pair (.slice (.int .u8)) .unit))) .unit)) (OutT (List.nil)))) (fun x1 => (cond (Decidable.decide (LT.lt x1.1.1 (Nat.cast (List.length x.1.2.2.1) : Int))) (cond (inB x1.1.1 (List.length x.1.2.2.1)) (Option.bind (GetElem?.getElem? x.1.2.2.1 (Int.toNat x1.1.1)) (fun x2 => (Option.bind (r36 ((List.cons (Nat.cast (List.length x2) : Int) (List.nil)), Unit.unit) (x1.1.2.2.2.1, Unit.unit)) (fun x3 => (Option.bind (loop (D := (Prod (Kd.T (.pair (.int .i64) (.pair (.int .i64) (.pair (.int .i64) (.pair (.slice (.int .u8)) .unit))))) (Kd.T .unit))) (O := (Sum (Kd.T (.pair (.pair (.int .i64) (.pair (.int .i64) (.pair (.slice (.int .u8)) .unit))) .unit)) (OutT (List.nil)))) (fun x4 => (cond (Decidable.decide (LT.lt x4.1.1 (Nat.cast (List.length x2) : Int))) (cond (inB x4.1.1 (List.length x2)) (Option.bind (GetElem?.getElem? x2 (Int.toNat x4.1.1)) (fun x5 => (Option.bind (r36 ((List.cons (IntKind.wrap IntKind.i64 (HSub.hSub x5.1 x4.1.2.1)) (List.cons (IntKind.wrap IntKind.i64 (HSub.hSub x5.2.1 x4.1.2.2.1)) (List.nil))), Unit.unit) (x4.1.2.2.2.1, Unit.unit)) (fun x6 => (Option.some (Sum.inl (((IntKind.wrap IntKind.i64 (HAdd.hAdd x4.1.1 (1 : Int))), (x5.1, (x5.2.1, (x6.2.1, Unit.unit)))), Unit.unit))))))) (Option.none)) (Option.some (Sum.inr (Sum.inl ((x4.1.2.1, (x4.1.2.2.1, (x4.1.2.2.2.1, Unit.unit))), Unit.unit)))))) (((0 : Int), (x1.1.2.1, (x1.1.2.2.1, (x3.2.1, Unit.unit)))), Unit.unit)) (sumE (fun x4 => (Option.some (Sum.inl (((IntKind.wrap IntKind.i64 (HAdd.hAdd x1.1.1 (1 : Int))), (x4.1.1, (x4.1.2.1, (x4.1.2.2.1, Unit.unit)))), Unit.unit)))) (emptyE))))))) (Option.none)) (Option.some (Sum.inr (Sum.inl ((x1.1.2.1, (x1.1.2.2.1, (x1.1.2.2.2.1, Unit.unit))), Unit.unit)))))) (((0 : Int), ((0 : Int), ((0 : Int), (x0.2.1, Unit.unit)))), Unit.unit)) (sumE (fun x1 => (Option.bind (r36 ((List.cons (Nat.cast (List.length x.1.2.2.2.1) : Int) (List.nil)), Unit.unit) (x1.1.2.2.1, Unit.unit)) (fun x2 => (Option.bind (loop (D := (Prod (Kd.T (.pair (.int .i64) (.pair (.slice (.int .u8)) .unit))) (Kd.T .unit))) (O := (Sum (Kd.T (.pair (.pair (.slice (.int .u8)) .unit) .unit)) (OutT (List.nil)))) (fun x3 => (cond (Decidable.decide (LT.lt x3.1.1 (Nat.cast (List.length x.1.2.2.2.1) : Int))) (cond (inB x3.1.1 (List.length x.1.2.2.2.1)) (Option.bind (GetElem?.getElem? x.1.2.2.2.1 (Int.toNat x3.1.1)) (fun x4 => (Option.bind (r47 (x4.1, Unit.unit) (x3.1.2.1, Unit.unit)) (fun x5 => (Option.bind (r36 ((List.cons x4.2.1.1 (List.nil)), Unit.unit) (x5.2.1, Unit.unit)) (fun x6 => (cond (Decidable.decide (Eq x4.2.1.1 (1 : Int))) (Option.bind (r36 ((List.cons x4.2.1.2.1 (List.nil)), Unit.unit) (x6.2.1, Unit.unit)) (fun x7 => (Option.some (Sum.inl (((IntKind.wrap IntKind.i64 (HAdd.hAdd x3.1.1 (1 : Int))), (x7.2.1, Unit.unit)), Unit.unit))))) (cond (Decidable.decide (Eq x4.2.1.1 (2 : Int))) (Option.bind (r47 (x4.2.1.2.2.1, Unit.unit) (x6.2.1, Unit.unit)) (fun x7 => (Option.some (Sum.inl (((IntKind.wrap IntKind.i64 (HAdd.hAdd x3.1.1 (1 : Int))), (x7.2.1, Unit.unit)), Unit.unit))))) (cond (Decidable.decide (Eq x4.2.1.1 (3 : Int))) (cond x4.2.1.2.2.2.1 (Option.bind (r36 ((List.cons (1 : Int) (List.nil)), Unit.unit) (x6.2.1, Unit.unit)) (fun x7 => (Option.some (Sum.inl (((IntKind.wrap IntKind.i64 (HAdd.hAdd x3.1.1 (1 : Int))), (x7.2.1, Unit.unit)), Unit.unit))))) (Option.bind (r36 ((List.cons (0 : Int) (List.nil)), Unit.unit) (x6.2.1, Unit.unit)) (fun x7 => (Option.some (Sum.inl (((IntKind.wrap IntKind.i64 (HAdd.hAdd x3.1.1 (1 : Int))), (x7.2.1, Unit.unit)), Unit.unit)))))) (Option.some (Sum.inl (((IntKind.wrap IntKind.i64 (HAdd.hAdd x3.1.1 (1 : Int))), (x6.2.1, Unit.unit)), Unit.unit)))))))))))) (Option.none)) (Option.some (Sum.inr (Sum.inl ((x3.1.2.1, Unit.unit), Unit.unit)))))) (((0 : Int), (x2.2.1, Unit.unit)), Unit.unit)) (sumE (fun x3 => (Option.some (Unit.unit, (x3.1.1, Unit.unit)))) (emptyE)))))) (emptyE)))))
theorem r37_ok : SpecOk Go.Proofs.Try.prog 0 (fun _ => True) 37 (memSpec [.ptr 0 0, .dat (.pair (.int .i64) (.pair (.int .i64) (.pair (.slice (.slice (.pair (.int .i64) (.pair (.int .i64) .unit)))) (.pair (.slice (.pair .str (.pair (.pair (.int .i64) (.pair (.int .i64) (.pair .str (.pair .bool .unit)))) .unit))) (.pair (.int .i64) (.pair (.int .i64) .unit)))))), .dat (.int .i64)] [(0, [.own (.int .u8)])] [(0, [.own (.int .u8)])] [] r37) :=
  memSpec_ok (F := specOf [(36, memSpec [.ptr 0 0, .dat (.slice (.int .i64))] [(0, [.own (.int .u8)])] [(0, [.own (.int .u8)])] [] r36), (47, memSpec [.ptr 0 0, .dat .str] [(0, [.own (.int .u8)])] [(0, [.own (.int .u8)])] [] r47)]) (hs := hintOf [(4, ⟨⟨[(77, .lf (.int .i64))], [(0, [.own (.int .u8)])], []⟩, [((.exit 4), ⟨[], [(0, [.own (.int .u8)])], []⟩)]⟩), (2, ⟨⟨[(48, .lf (.int .i64))], [(1472, [.lf (.int .i64), .lf (.int .i64)]), (0, [.own (.int .u8)])], []⟩, [((.exit 2), ⟨[], [(1472, [.lf (.int .i64), .lf (.int .i64)]), (0, [.own (.int .u8)])], []⟩)]⟩), (0, ⟨⟨[(37, .lf (.int .i64))], [(1472, [.lf (.int .i64), .lf (.int .i64)]), (0, [.own (.int .u8)])], []⟩, [((.exit 0), ⟨[], [(1472, [.lf (.int .i64), .lf (.int .i64)]), (0, [.own (.int .u8)])], []⟩)]⟩)]) stays_triv (specOf_cons r36_ok (specOf_cons r47_ok specOf_nil)) mixed Go.Proofs.Try.func37 rfl (by kernel_rfl) (by kernel_rfl) (fun _ _ => by kernel_rfl)

/-- terrier/bin.Sum -/
noncomputable def r11 (x : (kdP [(.slice (.int .u8))]).T) : Option (kdP [(.int .u32)]).T :=
  (Option.bind (loop (D := (Prod (Kd.T (.pair (.int .u32) (.pair (.int .i64) .unit))) (Kd.T .unit))) (O := (Sum (Kd.T (.pair (.pair (.int .u32) .unit) .unit)) (OutT (List.nil)))) (fun x0 => (cond (Decidable.decide (LT.lt x0.1.2.1 (Nat.cast (List.length x.1) : Int))) (cond (inB x0.1.2.1 (List.length x.1)) (Option.bind (GetElem?.getElem? x.1 (Int.toNat x0.1.2.1)) (fun x1 => (Option.some (Sum.inl (((IntKind.wrap IntKind.u32 (HMul.hMul (IntKind.wrap IntKind.u32 (Nat.cast (BitVec.toNat (HXor.hXor (BitVec.ofInt 32 x0.1.1) (BitVec.ofInt 32 (IntKind.wrap IntKind.u32 x1)))) : Int)) (16777619 : Int))), ((IntKind.wrap IntKind.i64 (HAdd.hAdd x0.1.2.1 (1 : Int))), Unit.unit)), Unit.unit))))) (Option.none)) (Option.some (Sum.inr (Sum.inl ((x0.1.1, Unit.unit), Unit.unit)))))) (((2166136261 : Int), ((0 : Int), Unit.unit)), Unit.unit)) (sumE (fun x0 => (Option.some (x0.1.1, Unit.unit))) (emptyE)))
theorem r11_ok : PureOk Go.Proofs.Try.prog 0 (fun _ => True) 11 [(.slice (.int .u8))] [(.int .u32)] r11 :=
  pureOk_of_run (F := specOf []) (hs := hintOf [(0, ⟨⟨[(3, .lf (.int .u32)), (8, .lf (.int .i64))], [], []⟩, [((.exit 0), ⟨[(3, .lf (.int .u32))], [], []⟩)]⟩)]) stays_triv specOf_nil mixed Go.Proofs.Try.func11 rfl (by kernel_rfl) (fun _ => by kernel_rfl)

/-- terrier/bin.Write -/
noncomputable def r23 (x : (kdP [(.slice (.pair (.int .i64) (.pair (.int .i64) (.pair (.slice (.slice (.pair (.int .i64) (.pair (.int .i64) .unit)))) (.pair (.slice (.pair .str (.pair (.pair (.int .i64) (.pair (.int .i64) (.pair .str (.pair .bool .unit)))) .unit))) (.pair (.int .i64) (.pair (.int .i64) .unit)))))))]).T) : Option (kdP [(.slice (.int .u8)), (.int .i64)]).T :=
  (Option.bind (r20 (x.1, Unit.unit)) (fun x0 => (cond (Bool.not (Decidable.decide (Eq x0.1 (0 : Int)))) (Option.some ((List.nil), (x0.1, Unit.unit))) (Option.bind (r36 ((List.cons (Nat.cast (List.length x.1) : Int) (List.nil)), Unit.unit) ((List.cons (84 : Int) (List.cons (49 : Int) (List.nil))), Unit.unit)) (fun x1 => (Option.bind (loop (D := (Prod (Kd.T (.pair (.int .i64) (.pair (.int .i64) (.pair (.slice (.int .u8)) .unit)))) (Kd.T .unit))) (O := (Sum (Kd.T (.pair (.pair (.slice (.int .u8)) .unit) .unit)) (OutT (List.nil)))) (fun x2 => (cond (Decidable.decide (LT.lt x2.1.2.1 (Nat.cast (List.length x.1) : Int))) (cond (inB x2.1.2.1 (List.length x.1)) (Option.bind (GetElem?.getElem? x.1 (Int.toNat x2.1.2.1)) (fun x3 => (Option.bind (r37 ((x3.1, (x3.2.1, (x3.2.2.1, (x3.2.2.2.1, (x3.2.2.2.2.1, (x3.2.2.2.2.2.1, Unit.unit)))))), (x2.1.1, Unit.unit)) (x2.1.2.2.1, Unit.unit)) (fun x4 => (Option.some (Sum.inl ((x3.1, ((IntKind.wrap IntKind.i64 (HAdd.hAdd x2.1.2.1 (1 : Int))), (x4.2.1, Unit.unit))), Unit.unit))))))) (Option.none)) (Option.some (Sum.inr (Sum.inl ((x2.1.2.2.1, Unit.unit), Unit.unit)))))) (((0 : Int), ((0 : Int), (x1.2.1, Unit.unit))), Unit.unit)) (sumE (fun x2 => (Option.bind (r11 (x2.1.1, Unit.unit)) (fun x3 => (cond (fits (HAdd.hAdd (List.length x2.1.1) (List.length (List.cons (IntKind.wrap IntKind.u8 x3.1) (List.cons (IntKind.wrap IntKind.u8 (Int.fdiv x3.1 (256 : Int))) (List.cons (IntKind.wrap IntKind.u8 (Int.fdiv x3.1 (65536 : Int))) (List.cons (IntKind.wrap IntKind.u8 (Int.fdiv x3.1 (16777216 : Int))) (List.nil))))))) 1) (cond (Decidable.decide (LT.lt (65536 : Int) (Nat.cast (List.length (HAppend.hAppend x2.1.1 (List.cons (IntKind.wrap IntKind.u8 x3.1) (List.cons (IntKind.wrap IntKind.u8 (Int.fdiv x3.1 (256 : Int))) (List.cons (IntKind.wrap IntKind.u8 (Int.fdiv x3.1 (65536 : Int))) (List.cons (IntKind.wrap IntKind.u8 (Int.fdiv x3.1 (16777216 : Int))) (List.nil))))))) : Int))) (Option.some ((List.nil), ((2 : Int), Unit.unit))) (Option.some ((HAppend.hAppend x2.1.1 (List.cons (IntKind.wrap IntKind.u8 x3.1) (List.cons (IntKind.wrap IntKind.u8 (Int.fdiv x3.1 (256 : Int))) (List.cons (IntKind.wrap IntKind.u8 (Int.fdiv x3.1 (65536 : Int))) (List.cons (IntKind.wrap IntKind.u8 (Int.fdiv x3.1 (16777216 : Int))) (List.nil)))))), ((0 : Int), Unit.unit)))) (Option.none))))) (emptyE))))))))
theorem r23_ok : PureOk Go.Proofs.Try.prog 0 (fun _ => True) 23 [(.slice (.pair (.int .i64) (.pair (.int .i64) (.pair (.slice (.slice (.pair (.int .i64) (.pair (.int .i64) .unit)))) (.pair (.slice (.pair .str (.pair (.pair (.int .i64) (.pair (.int .i64) (.pair .str (.pair .bool .unit)))) .unit))) (.pair (.int .i64) (.pair (.int .i64) .unit)))))))] [(.slice (.int .u8)), (.int .i64)] r23 :=
  pureOk_of_run (F := specOf [(20, pureSpec [(.slice (.pair (.int .i64) (.pair (.int .i64) (.pair (.slice (.slice (.pair (.int .i64) (.pair (.int .i64) .unit)))) (.pair (.slice (.pair .str (.pair (.pair (.int .i64) (.pair (.int .i64) (.pair .str (.pair .bool .unit)))) .unit))) (.pair (.int .i64) (.pair (.int .i64) .unit)))))))] [(.int .i64)] r20), (36, memSpec [.ptr 0 0, .dat (.slice (.int .i64))] [(0, [.own (.int .u8)])] [(0, [.own (.int .u8)])] [] r36), (37, memSpec [.ptr 0 0, .dat (.pair (.int .i64) (.pair (.int .i64) (.pair (.slice (.slice (.pair (.int .i64) (.pair (.int .i64) .unit)))) (.pair (.slice (.pair .str (.pair (.pair (.int .i64) (.pair (.int .i64) (.pair .str (.pair .bool .unit)))) .unit))) (.pair (.int .i64) (.pair (.int .i64) .unit)))))), .dat (.int .i64)] [(0, [.own (.int .u8)])] [(0, [.own (.int .u8)])] [] r37), (11, pureSpec [(.slice (.int .u8))] [(.int .u32)] r11)]) (hs := hintOf [(0, ⟨⟨[(6, .lf (.int .i64)), (27, .lf (.int .i64))], [(640, [.own (.int .u8)])], []⟩, [((.exit 0), ⟨[], [(640, [.own (.int .u8)])], []⟩)]⟩)]) stays_triv (specOf_cons (PureOk.spec r20_ok) (specOf_cons r36_ok (specOf_cons r37_ok (specOf_cons (PureOk.spec r11_ok) specOf_nil)))) mixed Go.Proofs.Try.func23 rfl (by kernel_rfl) (fun _ => by kernel_rfl)

/-- (*terrier/bin.reader).num -/
noncomputable def r48 (x : (kdP []).T) (d : (kdL [.lf (.slice (.int .u8)), .lf .bool]).T) : Option ((kdP [(.int .i64)]).T × (kdL [.lf (.slice (.int .u8)), .lf .bool]).T) :=
  (Option.bind (loop (D := (Prod (Kd.T (.pair (.int .u64) (.pair (.int .i64) .unit))) (Kd.T .unit))) (O := (Sum (Kd.T (.pair (.pair (.int .i64) (.pair (.slice (.int .u8)) (.pair .bool .unit))) .unit)) (OutT (List.cons ((Ex3.exit 0), (Sh.mk (List.nil) (List.nil) (List.nil))) (List.nil))))) (fun x0 => (cond (Decidable.decide (LT.lt x0.1.2.1 (Nat.cast (List.length d.1) : Int))) (cond (inB x0.1.2.1 (List.length d.1)) (Option.bind (GetElem?.getElem? d.1 (Int.toNat x0.1.2.1)) (fun x1 => (cond (Decidable.decide (Eq x0.1.2.1 (9 : Int))) (cond (Decidable.decide (LT.lt (1 : Int) x1)) (Option.some (Sum.inr (Sum.inr (Sum.inl (Unit.unit, Unit.unit))))) (cond (Decidable.decide (LT.lt (IntKind.wrap IntKind.i64 (HMul.hMul (7 : Int) x0.1.2.1)) (0 : Int))) (Option.none) (cond (Decidable.decide (LT.lt x1 (128 : Int))) (cond (upTo (IntKind.wrap IntKind.i64 (HAdd.hAdd x0.1.2.1 (1 : Int))) (Nat.cast (List.length d.1) : Int)) (Option.some (Sum.inr (Sum.inl (((IntKind.wrap IntKind.i64 (Nat.cast (BitVec.toNat (HXor.hXor (BitVec.ofInt 64 (IntKind.wrap IntKind.i64 (Int.fdiv (IntKind.wrap IntKind.u64 (Nat.cast (BitVec.toNat (HOr.hOr (BitVec.ofInt 64 x0.1.1) (BitVec.ofInt 64 (IntKind.wrap IntKind.u64 (HMul.hMul (IntKind.wrap IntKind.u64 (IntKind.wrap IntKind.u8 (Nat.cast (BitVec.toNat (HAnd.hAnd (BitVec.ofInt 8 x1) (BitVec.ofInt 8 (127 : Int)))) : Int))) (HPow.hPow (2 : Int) (Min.min (Int.toNat (IntKind.wrap IntKind.i64 (HMul.hMul (7 : Int) x0.1.2.1))) 64))))))) : Int)) (2 : Int)))) (BitVec.ofInt 64 (IntKind.wrap IntKind.i64 (HSub.hSub (0 : Int) (IntKind.wrap IntKind.i64 (IntKind.wrap IntKind.u64 (Nat.cast (BitVec.toNat (HAnd.hAnd (BitVec.ofInt 64 (IntKind.wrap IntKind.u64 (Nat.cast (BitVec.toNat (HOr.hOr (BitVec.ofInt 64 x0.1.1) (BitVec.ofInt 64 (IntKind.wrap IntKind.u64 (HMul.hMul (IntKind.wrap IntKind.u64 (IntKind.wrap IntKind.u8 (Nat.cast (BitVec.toNat (HAnd.hAnd (BitVec.ofInt 8 x1) (BitVec.ofInt 8 (127 : Int)))) : Int))) (HPow.hPow (2 : Int) (Min.min (Int.toNat (IntKind.wrap IntKind.i64 (HMul.hMul (7 : Int) x0.1.2.1))) 64))))))) : Int))) (BitVec.ofInt 64 (1 : Int)))) : Int)))))))) : Int)), ((List.drop (Int.toNat (IntKind.wrap IntKind.i64 (HAdd.hAdd x0.1.2.1 (1 : Int)))) d.1), (d.2.1, Unit.unit))), Unit.unit)))) (Option.none)) (Option.some (Sum.inl (((IntKind.wrap IntKind.u64 (Nat.cast (BitVec.toNat (HOr.hOr (BitVec.ofInt 64 x0.1.1) (BitVec.ofInt 64 (IntKind.wrap IntKind.u64 (HMul.hMul (IntKind.wrap IntKind.u64 (IntKind.wrap IntKind.u8 (Nat.cast (BitVec.toNat (HAnd.hAnd (BitVec.ofInt 8 x1) (BitVec.ofInt 8 (127 : Int)))) : Int))) (HPow.hPow (2 : Int) (Min.min (Int.toNat (IntKind.wrap IntKind.i64 (HMul.hMul (7 : Int) x0.1.2.1))) 64))))))) : Int)), ((IntKind.wrap IntKind.i64 (HAdd.hAdd x0.1.2.1 (1 : Int))), Unit.unit)), Unit.unit)))))) (cond (Decidable.decide (LT.lt (IntKind.wrap IntKind.i64 (HMul.hMul (7 : Int) x0.1.2.1)) (0 : Int))) (Option.none) (cond (Decidable.decide (LT.lt x1 (128 : Int))) (cond (upTo (IntKind.wrap IntKind.i64 (HAdd.hAdd x0.1.2.1 (1 : Int))) (Nat.cast (List.length d.1) : Int)) (Option.some (Sum.inr (Sum.inl (((IntKind.wrap IntKind.i64 (Nat.cast (BitVec.toNat (HXor.hXor (BitVec.ofInt 64 (IntKind.wrap IntKind.i64 (Int.fdiv (IntKind.wrap IntKind.u64 (Nat.cast (BitVec.toNat (HOr.hOr (BitVec.ofInt 64 x0.1.1) (BitVec.ofInt 64 (IntKind.wrap IntKind.u64 (HMul.hMul (IntKind.wrap IntKind.u64 (IntKind.wrap IntKind.u8 (Nat.cast (BitVec.toNat (HAnd.hAnd (BitVec.ofInt 8 x1) (BitVec.ofInt 8 (127 : Int)))) : Int))) (HPow.hPow (2 : Int) (Min.min (Int.toNat (IntKind.wrap IntKind.i64 (HMul.hMul (7 : Int) x0.1.2.1))) 64))))))) : Int)) (2 : Int)))) (BitVec.ofInt 64 (IntKind.wrap IntKind.i64 (HSub.hSub (0 : Int) (IntKind.wrap IntKind.i64 (IntKind.wrap IntKind.u64 (Nat.cast (BitVec.toNat (HAnd.hAnd (BitVec.ofInt 64 (IntKind.wrap IntKind.u64 (Nat.cast (BitVec.toNat (HOr.hOr (BitVec.ofInt 64 x0.1.1) (BitVec.ofInt 64 (IntKind.wrap IntKind.u64 (HMul.hMul (IntKind.wrap IntKind.u64 (IntKind.wrap IntKind.u8 (Nat.cast (BitVec.toNat (HAnd.hAnd (BitVec.ofInt 8 x1) (BitVec.ofInt 8 (127 : Int)))) : Int))) (HPow.hPow (2 : Int) (Min.min (Int.toNat (IntKind.wrap IntKind.i64 (HMul.hMul (7 : Int) x0.1.2.1))) 64))))))) : Int))) (BitVec.ofInt 64 (1 : Int)))) : Int)))))))) : Int)), ((List.drop (Int.toNat (IntKind.wrap IntKind.i64 (HAdd.hAdd x0.1.2.1 (1 : Int)))) d.1), (d.2.1, Unit.unit))), Unit.unit)))) (Option.none)) (Option.some (Sum.inl (((IntKind.wrap IntKind.u64 (Nat.cast (BitVec.toNat (HOr.hOr (BitVec.ofInt 64 x0.1.1) (BitVec.ofInt 64 (IntKind.wrap IntKind.u64 (HMul.hMul (IntKind.wrap IntKind.u64 (IntKind.wrap IntKind.u8 (Nat.cast (BitVec.toNat (HAnd.hAnd (BitVec.ofInt 8 x1) (BitVec.ofInt 8 (127 : Int)))) : Int))) (HPow.hPow (2 : Int) (Min.min (Int.toNat (IntKind.wrap IntKind.i64 (HMul.hMul (7 : Int) x0.1.2.1))) 64))))))) : Int)), ((IntKind.wrap IntKind.i64 (HAdd.hAdd x0.1.2.1 (1 : Int))), Unit.unit)), Unit.unit)))))))) (Option.none)) (Option.some (Sum.inr (Sum.inr (Sum.inl (Unit.unit, Unit.unit))))))) (((0 : Int), ((0 : Int), Unit.unit)), Unit.unit)) (sumE (fun x0 => (Option.some ((x0.1.1, Unit.unit), (x0.1.2.1, (x0.1.2.2.1, Unit.unit))))) (sumE (fun x0 => (Option.some (((0 : Int), Unit.unit), (d.1, (Bool.true, Unit.unit))))) (emptyE))))
theorem r48_ok : SpecOk Go.Proofs.Try.prog 0 (fun _ => True) 48 (memSpec [.ptr 0 0] [(0, [.lf (.slice (.int .u8)), .lf .bool])] [(0, [.lf (.slice (.int .u8)), .lf .bool])] [(.int .i64)] r48) :=
  memSpec_ok (F := specOf []) (hs := hintOf [(0, ⟨⟨[(3, .lf (.int .u64)), (11, .lf (.int .i64))], [], []⟩, [(.ret, ⟨[(2, .lf (.int .i64))], [(0, [.lf (.slice (.int .u8)), .lf .bool])], []⟩), ((.exit 0), ⟨[], [], []⟩)]⟩)]) stays_triv specOf_nil mixed Go.Proofs.Try.func48 rfl (by kernel_rfl) (by kernel_rfl) (fun _ _ => by kernel_rfl)

/-- (*terrier/bin.reader).count -/
noncomputable def r38 (x : (kdP [(.int .i64)]).T) (d : (kdL [.lf (.slice (.int .u8)), .lf .bool]).T) : Option ((kdP [(.int .i64)]).T × (kdL [.lf (.slice (.int .u8)), .lf .bool]).T) :=
  (Option.bind (r48 Unit.unit (d.1, (d.2.1, Unit.unit))) (fun x0 => (cond (Decidable.decide (LT.lt x0.1.1 (0 : Int))) (Option.some (((0 : Int), Unit.unit), (x0.2.1, (Bool.true, Unit.unit)))) (cond (Decidable.decide (LT.lt x.1 x0.1.1)) (Option.some (((0 : Int), Unit.unit), (x0.2.1, (Bool.true, Unit.unit)))) (Option.some ((x0.1.1, Unit.unit), (x0.2.1, (x0.2.2.1, Unit.unit))))))))
theorem r38_ok : SpecOk Go.Proofs.Try.prog 0 (fun _ => True) 38 (memSpec [.ptr 0 0, .dat (.int .i64)] [(0, [.lf (.slice (.int .u8)), .lf .bool])] [(0, [.lf (.slice (.int .u8)), .lf .bool])] [(.int .i64)] r38) :=
  memSpec_ok (F := specOf [(48, memSpec [.ptr 0 0] [(0, [.lf (.slice (.int .u8)), .lf .bool])] [(0, [.lf (.slice (.int .u8)), .lf .bool])] [(.int .i64)] r48)]) (hs := hintOf []) stays_triv (specOf_cons r48_ok specOf_nil) mixed Go.Proofs.Try.func38 rfl (by kernel_rfl) (by kernel_rfl) (fun _ _ => by kernel_rfl)

/-- (*terrier/bin.reader).text -/
noncomputable def r49 (x : (kdP []).T) (d : (kdL [.lf (.slice (.int .u8)), .lf .bool]).T) : Option ((kdP [.str]).T × (kdL [.lf (.slice (.int .u8)), .lf .bool]).T) :=
  (Option.bind (r38 ((Nat.cast (List.length d.1) : Int), Unit.unit) (d.1, (d.2.1, Unit.unit))) (fun x0 => (cond x0.2.2.1 (Option.some (((ByteArray.mk (List.toArray (List.nil))), Unit.unit), (x0.2.1, (Bool.true, Unit.unit)))) (cond (Decidable.decide (LT.lt (Nat.cast (List.length x0.2.1) : Int) x0.1.1)) (Option.some (((ByteArray.mk (List.toArray (List.nil))), Unit.unit), (x0.2.1, (Bool.true, Unit.unit)))) (cond (upTo x0.1.1 (Nat.cast (List.length x0.2.1) : Int)) (cond (upTo x0.1.1 (Nat.cast (List.length x0.2.1) : Int)) (Option.some (((mkStr (List.take (Int.toNat x0.1.1) x0.2.1)), Unit.unit), ((List.drop (Int.toNat x0.1.1) x0.2.1), (x0.2.2.1, Unit.unit)))) (Option.none)) (Option.none))))))
theorem r49_ok : SpecOk Go.Proofs.Try.prog 0 (fun _ => True) 49 (memSpec [.ptr 0 0] [(0, [.lf (.slice (.int .u8)), .lf .bool])] [(0, [.lf (.slice (.int .u8)), .lf .bool])] [.str] r49) :=
  memSpec_ok (F := specOf [(38, memSpec [.ptr 0 0, .dat (.int .i64)] [(0, [.lf (.slice (.int .u8)), .lf .bool])] [(0, [.lf (.slice (.int .u8)), .lf .bool])] [(.int .i64)] r38)]) (hs := hintOf []) stays_triv (specOf_cons r38_ok specOf_nil) mixed Go.Proofs.Try.func49 rfl (by kernel_rfl) (by kernel_rfl) (fun _ _ => by kernel_rfl)

/-- (*terrier/bin.reader).feature -/
noncomputable def r39 (x : (kdP [(.int .i64)]).T) (d : (kdL [.lf (.slice (.int .u8)), .lf .bool]).T) : Option ((kdP [(.pair (.int .i64) (.pair (.int .i64) (.pair (.slice (.slice (.pair (.int .i64) (.pair (.int .i64) .unit)))) (.pair (.slice (.pair .str (.pair (.pair (.int .i64) (.pair (.int .i64) (.pair .str (.pair .bool .unit)))) .unit))) (.pair (.int .i64) (.pair (.int .i64) .unit))))))]).T × (kdL [.lf (.slice (.int .u8)), .lf .bool]).T) :=
  (Option.bind (r48 Unit.unit (d.1, (d.2.1, Unit.unit))) (fun x0 => (Option.bind (r48 Unit.unit (x0.2.1, (x0.2.2.1, Unit.unit))) (fun x1 => (Option.bind (r48 Unit.unit (x1.2.1, (x1.2.2.1, Unit.unit))) (fun x2 => (Option.bind (r48 Unit.unit (x2.2.1, (x2.2.2.1, Unit.unit))) (fun x3 => (Option.bind (r38 ((20 : Int), Unit.unit) (x3.2.1, (x3.2.2.1, Unit.unit))) (fun x4 => (Option.bind (loop (D := (Prod (Kd.T (.pair (.int .i64) (.pair (.int .i64) (.pair (.int .i64) (.pair (.slice (.slice (.pair (.int .i64) (.pair (.int .i64) .unit)))) (.pair .unit (.pair (.int .i64) (.pair (.int .i64) (.pair (.int .i64) (.pair (.int .i64) (.pair (.slice (.int .u8)) (.pair .bool .unit)))))))))))) (Kd.T .unit))) (O := (Sum (Kd.T (.pair (.pair (.int .i64) (.pair (.int .i64) (.pair (.slice (.slice (.pair (.int .i64) (.pair (.int .i64) .unit)))) (.pair .unit (.pair (.int .i64) (.pair (.int .i64) (.pair (.int .i64) (.pair (.int .i64) (.pair (.slice (.int .u8)) (.pair .bool .unit)))))))))) .unit)) (OutT (List.nil)))) (fun x5 => (cond (Decidable.decide (LT.lt x5.1.1 x4.1.1)) (Option.bind (r38 ((200 : Int), Unit.unit) (x5.1.2.2.2.2.2.2.2.2.2.1, (x5.1.2.2.2.2.2.2.2.2.2.2.1, Unit.unit))) (fun x6 => (Option.bind (loop (D := (Prod (Kd.T (.pair (.slice (.pair (.int .i64) (.pair (.int .i64) .unit))) (.pair (.int .i64) (.pair (.int .i64) (.pair (.int .i64) (.pair (.slice (.int .u8)) (.pair .bool .unit))))))) (Kd.T .unit))) (O := (Sum (Kd.T (.pair (.pair (.slice (.pair (.int .i64) (.pair (.int .i64) .unit))) (.pair (.int .i64) (.pair (.int .i64) (.pair (.slice (.int .u8)) (.pair .bool .unit))))) .unit)) (OutT (List.nil)))) (fun x7 => (cond (Decidable.decide (LT.lt x7.1.2.1 x6.1.1)) (Option.bind (r48 Unit.unit (x7.1.2.2.2.2.1, (x7.1.2.2.2.2.2.1, Unit.unit))) (fun x8 => (Option.bind (r48 Unit.unit (x8.2.1, (x8.2.2.1, Unit.unit))) (fun x9 => (cond (fits (HAdd.hAdd (List.length x7.1.1) (List.length (List.cons ((IntKind.wrap IntKind.i64 (HAdd.hAdd x7.1.2.2.1 x8.1.1)), ((IntKind.wrap IntKind.i64 (HAdd.hAdd x7.1.2.2.2.1 x9.1.1)), Unit.unit)) (List.nil)))) 16) (Option.some (Sum.inl (((HAppend.hAppend x7.1.1 (List.cons ((IntKind.wrap IntKind.i64 (HAdd.hAdd x7.1.2.2.1 x8.1.1)), ((IntKind.wrap IntKind.i64 (HAdd.hAdd x7.1.2.2.2.1 x9.1.1)), Unit.unit)) (List.nil))), ((IntKind.wrap IntKind.i64 (HAdd.hAdd x7.1.2.1 (1 : Int))), ((IntKind.wrap IntKind.i64 (HAdd.hAdd x7.1.2.2.1 x8.1.1)), ((IntKind.wrap IntKind.i64 (HAdd.hAdd x7.1.2.2.2.1 x9.1.1)), (x9.2.1, (x9.2.2.1, Unit.unit)))))), Unit.unit))) (Option.none)))))) (Option.some (Sum.inr (Sum.inl ((x7.1.1, (x7.1.2.2.1, (x7.1.2.2.2.1, (x7.1.2.2.2.2.1, (x7.1.2.2.2.2.2.1, Unit.unit))))), Unit.unit)))))) (((List.nil), ((0 : Int), (x5.1.2.2.2.2.2.2.2.1, (x5.1.2.2.2.2.2.2.2.2.1, (x6.2.1, (x6.2.2.1, Unit.unit)))))), Unit.unit)) (sumE (fun x7 => (cond (fits (HAdd.hAdd (List.length x5.1.2.2.2.1) (List.length (List.cons x7.1.1 (List.nil)))) 24) (Option.some (Sum.inl (((IntKind.wrap IntKind.i64 (HAdd.hAdd x5.1.1 (1 : Int))), (x5.1.2.1, (x5.1.2.2.1, ((HAppend.hAppend x5.1.2.2.2.1 (List.cons x7.1.1 (List.nil))), (Unit.unit, (x5.1.2.2.2.2.2.1, (x5.1.2.2.2.2.2.2.1, (x7.1.2.1, (x7.1.2.2.1, (x7.1.2.2.2.1, (x7.1.2.2.2.2.1, Unit.unit))))))))))), Unit.unit))) (Option.none))) (emptyE))))) (Option.some (Sum.inr (Sum.inl ((x5.1.2.1, (x5.1.2.2.1, (x5.1.2.2.2.1, (Unit.unit, (x5.1.2.2.2.2.2.1, (x5.1.2.2.2.2.2.2.1, (x5.1.2.2.2.2.2.2.2.1, (x5.1.2.2.2.2.2.2.2.2.1, (x5.1.2.2.2.2.2.2.2.2.2.1, (x5.1.2.2.2.2.2.2.2.2.2.2.1, Unit.unit)))))))))), Unit.unit)))))) (((0 : Int), ((IntKind.wrap IntKind.i64 (HAdd.hAdd x.1 x0.1.1)), (x1.1.1, ((List.nil), (Unit.unit, (x2.1.1, ((IntKind.wrap IntKind.i64 (HAdd.hAdd x2.1.1 x3.1.1)), ((0 : Int), ((0 : Int), (x4.2.1, (x4.2.2.1, Unit.unit))))))))))), Unit.unit)) (sumE (fun x5 => (Option.bind (r38 ((8 : Int), Unit.unit) (x5.1.2.2.2.2.2.2.2.2.1, (x5.1.2.2.2.2.2.2.2.2.2.1, Unit.unit))) (fun x6 => (Option.bind (loop (D := (Prod (Kd.T (.pair (.int .i64) (.pair (.int .i64) (.pair (.int .i64) (.pair (.slice (.slice (.pair (.int .i64) (.pair (.int .i64) .unit)))) (.pair (.slice (.pair .str (.pair (.pair (.int .i64) (.pair (.int .i64) (.pair .str (.pair .bool .unit)))) .unit))) (.pair (.int .i64) (.pair (.int .i64) (.pair (.slice (.int .u8)) (.pair .bool .unit)))))))))) (Kd.T .unit))) (O := (Sum (Kd.T (.pair (.pair (.int .i64) (.pair (.int .i64) (.pair (.slice (.slice (.pair (.int .i64) (.pair (.int .i64) .unit)))) (.pair (.slice (.pair .str (.pair (.pair (.int .i64) (.pair (.int .i64) (.pair .str (.pair .bool .unit)))) .unit))) (.pair (.int .i64) (.pair (.int .i64) (.pair (.slice (.int .u8)) (.pair .bool .unit)))))))) .unit)) (OutT (List.nil)))) (fun x7 => (cond (Decidable.decide (LT.lt x7.1.1 x6.1.1)) (Option.bind (r49 Unit.unit (x7.1.2.2.2.2.2.2.2.1, (x7.1.2.2.2.2.2.2.2.2.1, Unit.unit))) (fun x8 => (Option.bind (r48 Unit.unit (x8.2.1, (x8.2.2.1, Unit.unit))) (fun x9 => (cond (Decidable.decide (Eq x9.1.1 (1 : Int))) (Option.bind (r48 Unit.unit (x9.2.1, (x9.2.2.1, Unit.unit))) (fun x10 => (cond (fits (HAdd.hAdd (List.length x7.1.2.2.2.2.1) (List.length (List.cons (x8.1.1, ((x9.1.1, (x10.1.1, ((ByteArray.mk (List.toArray (List.nil))), (Bool.false, Unit.unit)))), Unit.unit)) (List.nil)))) 56) (Option.some (Sum.inl (((IntKind.wrap IntKind.i64 (HAdd.hAdd x7.1.1 (1 : Int))), (x7.1.2.1, (x7.1.2.2.1, (x7.1.2.2.2.1, ((HAppend.hAppend x7.1.2.2.2.2.1 (List.cons (x8.1.1, ((x9.1.1, (x10.1.1, ((ByteArray.mk (List.toArray (List.nil))), (Bool.false, Unit.unit)))), Unit.unit)) (List.nil))), (x7.1.2.2.2.2.2.1, (x7.1.2.2.2.2.2.2.1, (x10.2.1, (x10.2.2.1, Unit.unit))))))))), Unit.unit))) (Option.none)))) (cond (Decidable.decide (Eq x9.1.1 (2 : Int))) (Option.bind (r49 Unit.unit (x9.2.1, (x9.2.2.1, Unit.unit))) (fun x10 => (cond (fits (HAdd.hAdd (List.length x7.1.2.2.2.2.1) (List.length (List.cons (x8.1.1, ((x9.1.1, ((0 : Int), (x10.1.1, (Bool.false, Unit.unit)))), Unit.unit)) (List.nil)))) 56) (Option.some (Sum.inl (((IntKind.wrap IntKind.i64 (HAdd.hAdd x7.1.1 (1 : Int))), (x7.1.2.1, (x7.1.2.2.1, (x7.1.2.2.2.1, ((HAppend.hAppend x7.1.2.2.2.2.1 (List.cons (x8.1.1, ((x9.1.1, ((0 : Int), (x10.1.1, (Bool.false, Unit.unit)))), Unit.unit)) (List.nil))), (x7.1.2.2.2.2.2.1, (x7.1.2.2.2.2.2.2.1, (x10.2.1, (x10.2.2.1, Unit.unit))))))))), Unit.unit))) (Option.none)))) (cond (Decidable.decide (Eq x9.1.1 (3 : Int))) (Option.bind (r48 Unit.unit (x9.2.1, (x9.2.2.1, Unit.unit))) (fun x10 => (cond (fits (HAdd.hAdd (List.length x7.1.2.2.2.2.1) (List.length (List.cons (x8.1.1, ((x9.1.1, ((0 : Int), ((ByteArray.mk (List.toArray (List.nil))), ((Decidable.decide (Eq x10.1.1 (1 : Int))), Unit.unit)))), Unit.unit)) (List.nil)))) 56) (Option.some (Sum.inl (((IntKind.wrap IntKind.i64 (HAdd.hAdd x7.1.1 (1 : Int))), (x7.1.2.1, (x7.1.2.2.1, (x7.1.2.2.2.1, ((HAppend.hAppend x7.1.2.2.2.2.1 (List.cons (x8.1.1, ((x9.1.1, ((0 : Int), ((ByteArray.mk (List.toArray (List.nil))), ((Decidable.decide (Eq x10.1.1 (1 : Int))), Unit.unit)))), Unit.unit)) (List.nil))), (x7.1.2.2.2.2.2.1, (x7.1.2.2.2.2.2.2.1, (x10.2.1, (x10.2.2.1, Unit.unit))))))))), Unit.unit))) (Option.none)))) (cond (fits (HAdd.hAdd (List.length x7.1.2.2.2.2.1) (List.length (List.cons (x8.1.1, ((x9.1.1, ((0 : Int), ((ByteArray.mk (List.toArray (List.nil))), (Bool.false, Unit.unit)))), Unit.unit)) (List.nil)))) 56) (Option.some (Sum.inl (((IntKind.wrap IntKind.i64 (HAdd.hAdd x7.1.1 (1 : Int))), (x7.1.2.1, (x7.1.2.2.1, (x7.1.2.2.2.1, ((HAppend.hAppend x7.1.2.2.2.2.1 (List.cons (x8.1.1, ((x9.1.1, ((0 : Int), ((ByteArray.mk (List.toArray (List.nil))), (Bool.false, Unit.unit)))), Unit.unit)) (List.nil))), (x7.1.2.2.2.2.2.1, (x7.1.2.2.2.2.2.2.1, (x9.2.1, (x9.2.2.1, Unit.unit))))))))), Unit.unit))) (Option.none))))))))) (Option.some (Sum.inr (Sum.inl ((x7.1.2.1, (x7.1.2.2.1, (x7.1.2.2.2.1, (x7.1.2.2.2.2.1, (x7.1.2.2.2.2.2.1, (x7.1.2.2.2.2.2.2.1, (x7.1.2.2.2.2.2.2.2.1, (x7.1.2.2.2.2.2.2.2.2.1, Unit.unit)))))))), Unit.unit)))))) (((0 : Int), (x5.1.1, (x5.1.2.1, (x5.1.2.2.1, ((List.nil), (x5.1.2.2.2.2.1, (x5.1.2.2.2.2.2.1, (x6.2.1, (x6.2.2.1, Unit.unit))))))))), Unit.unit)) (sumE (fun x7 => (Option.some (((x7.1.1, (x7.1.2.1, (x7.1.2.2.1, (x7.1.2.2.2.1, (x7.1.2.2.2.2.1, (x7.1.2.2.2.2.2.1, Unit.unit)))))), Unit.unit), (x7.1.2.2.2.2.2.2.1, (x7.1.2.2.2.2.2.2.2.1, Unit.unit))))) (emptyE)))))) (emptyE)))))))))))))
theorem r39_ok : SpecOk Go.Proofs.Try.prog 0 (fun _ => True) 39 (memSpec [.ptr 0 0, .dat (.int .i64)] [(0, [.lf (.slice (.int .u8)), .lf .bool])] [(0, [.lf (.slice (.int .u8)), .lf .bool])] [(.pair (.int .i64) (.pair (.int .i64) (.pair (.slice (.slice (.pair (.int .i64) (.pair (.int .i64) .unit)))) (.pair (.slice (.pair .str (.pair (.pair (.int .i64) (.pair (.int .i64) (.pair .str (.pair .bool .unit)))) .unit))) (.pair (.int .i64) (.pair (.int .i64) .unit))))))] r39) :=
  memSpec_ok (F := specOf [(48, memSpec [.ptr 0 0] [(0, [.lf (.slice (.int .u8)), .lf .bool])] [(0, [.lf (.slice (.int .u8)), .lf .bool])] [(.int .i64)] r48), (38, memSpec [.ptr 0 0, .dat (.int .i64)] [(0, [.lf (.slice (.int .u8)), .lf .bool])] [(0, [.lf (.slice (.int .u8)), .lf .bool])] [(.int .i64)] r38), (49, memSpec [.ptr 0 0] [(0, [.lf (.slice (.int .u8)), .lf .bool])] [(0, [.lf (.slice (.int .u8)), .lf .bool])] [.str] r49)]) (hs := hintOf [(4, ⟨⟨[(59, .lf (.int .i64))], [(768, [.lf (.int .i64), .lf (.int .i64), .own (.slice (.pair (.int .i64) (.pair (.int .i64) .unit))), .own (.pair .str (.pair (.pair (.int .i64) (.pair (.int .i64) (.pair .str (.pair .bool .unit)))) .unit)), .lf (.int .i64), .lf (.int .i64)]), (0, [.lf (.slice (.int .u8)), .lf .bool])], []⟩, [((.exit 4), ⟨[], [(768, [.lf (.int .i64), .lf (.int .i64), .own (.slice (.pair (.int .i64) (.pair (.int .i64) .unit))), .own (.pair .str (.pair (.pair (.int .i64) (.pair (.int .i64) (.pair .str (.pair .bool .unit)))) .unit)), .lf (.int .i64), .lf (.int .i64)]), (0, [.lf (.slice (.int .u8)), .lf .bool])], []⟩)]⟩), (2, ⟨⟨[(7, .own (.pair (.int .i64) (.pair (.int .i64) .unit))), (31, .lf (.int .i64))], [(1408, [.lf (.int .i64), .lf (.int .i64)]), (0, [.lf (.slice (.int .u8)), .lf .bool])], []⟩, [((.exit 2), ⟨[(7, .own (.pair (.int .i64) (.pair (.int .i64) .unit)))], [(1408, [.lf (.int .i64), .lf (.int .i64)]), (0, [.lf (.slice (.int .u8)), .lf .bool])], []⟩)]⟩), (0, ⟨⟨[(27, .lf (.int .i64))], [(768, [.lf (.int .i64), .lf (.int .i64), .own (.slice (.pair (.int .i64) (.pair (.int .i64) .unit))), .nils, .lf (.int .i64), .lf (.int .i64)]), (1408, [.lf (.int .i64), .lf (.int .i64)]), (0, [.lf (.slice (.int .u8)), .lf .bool])], []⟩, [((.exit 0), ⟨[], [(768, [.lf (.int .i64), .lf (.int .i64), .own (.slice (.pair (.int .i64) (.pair (.int .i64) .unit))), .nils, .lf (.int .i64), .lf (.int .i64)]), (1408, [.lf (.int .i64), .lf (.int .i64)]), (0, [.lf (.slice (.int .u8)), .lf .bool])], []⟩)]⟩)]) stays_triv (specOf_cons r48_ok (specOf_cons r38_ok (specOf_cons r49_ok specOf_nil))) mixed Go.Proofs.Try.func39 rfl (by kernel_rfl) (by kernel_rfl) (fun _ _ => by kernel_rfl)

/-- slices.Equal[[]byte,byte] -/
noncomputable def r15 (x : (kdP [(.slice (.int .u8)), (.slice (.int .u8))]).T) : Option (kdP [.bool]).T :=
  (cond (Bool.not (Decidable.decide (Eq (Nat.cast (List.length x.1) : Int) (Nat.cast (List.length x.2.1) : Int)))) (Option.some (Bool.false, Unit.unit)) (Option.bind (loop (D := (Prod (Kd.T (.pair (.int .i64) .unit)) (Kd.T .unit))) (O := (Sum (Kd.T (.pair (.pair .bool .unit) .unit)) (OutT (List.cons ((Ex3.exit 0), (Sh.mk (List.nil) (List.nil) (List.nil))) (List.nil))))) (fun x0 => (cond (Decidable.decide (LT.lt x0.1.1 (Nat.cast (List.length x.1) : Int))) (cond (inB x0.1.1 (List.length x.1)) (Option.bind (GetElem?.getElem? x.1 (Int.toNat x0.1.1)) (fun x1 => (cond (inB x0.1.1 (List.length x.2.1)) (Option.bind (GetElem?.getElem? x.2.1 (Int.toNat x0.1.1)) (fun x2 => (cond (Bool.not (Decidable.decide (Eq x1 x2))) (Option.some (Sum.inr (Sum.inl ((Bool.false, Unit.unit), Unit.unit)))) (Option.some (Sum.inl (((IntKind.wrap IntKind.i64 (HAdd.hAdd x0.1.1 (1 : Int))), Unit.unit), Unit.unit)))))) (Option.none)))) (Option.none)) (Option.some (Sum.inr (Sum.inr (Sum.inl (Unit.unit, Unit.unit))))))) (((0 : Int), Unit.unit), Unit.unit)) (sumE (fun x0 => (Option.some (x0.1.1, Unit.unit))) (sumE (fun x0 => (Option.some (Bool.true, Unit.unit))) (emptyE)))))
theorem r15_ok : PureOk Go.Proofs.Try.prog 0 (fun _ => True) 15 [(.slice (.int .u8)), (.slice (.int .u8))] [.bool] r15 :=
  pureOk_of_run (F := specOf []) (hs := hintOf [(0, ⟨⟨[(13, .lf (.int .i64))], [], []⟩, [(.ret, ⟨[(4, .lf .bool)], [], []⟩), ((.exit 0), ⟨[], [], []⟩)]⟩)]) stays_triv specOf_nil mixed Go.Proofs.Try.func15 rfl (by kernel_rfl) (fun _ => by kernel_rfl)

/-- terrier/bin.Read -/
noncomputable def r25 (x : (kdP [(.slice (.int .u8))]).T) : Option (kdP [(.slice (.pair (.int .i64) (.pair (.int .i64) (.pair (.slice (.slice (.pair (.int .i64) (.pair (.int .i64) .unit)))) (.pair (.slice (.pair .str (.pair (.pair (.int .i64) (.pair (.int .i64) (.pair .str (.pair .bool .unit)))) .unit))) (.pair (.int .i64) (.pair (.int .i64) .unit))))))), (.int .i64)]).T :=
  (cond (Decidable.decide (LT.lt (65536 : Int) (Nat.cast (List.length x.1) : Int))) (Option.some ((List.nil), ((2 : Int), Unit.unit))) (cond (Decidable.decide (LT.lt (Nat.cast (List.length x.1) : Int) (6 : Int))) (Option.some ((List.nil), ((14 : Int), Unit.unit))) (cond (upTo (2 : Int) (Nat.cast (List.length x.1) : Int)) (cond (Bool.not (Decidable.decide (Eq (mkStr (List.take (Int.toNat (2 : Int)) x.1)) (ByteArray.mk (List.toArray (List.cons (84 : UInt8) (List.cons (49 : UInt8) (List.nil)))))))) (Option.some ((List.nil), ((3 : Int), Unit.unit))) (cond (upTo (IntKind.wrap IntKind.i64 (HSub.hSub (Nat.cast (List.length x.1) : Int) (4 : Int))) (Nat.cast (List.length x.1) : Int)) (cond (upTo (IntKind.wrap IntKind.i64 (HSub.hSub (Nat.cast (List.length x.1) : Int) (4 : Int))) (Nat.cast (List.length x.1) : Int)) (Option.bind (r11 ((List.take (Int.toNat (IntKind.wrap IntKind.i64 (HSub.hSub (Nat.cast (List.length x.1) : Int) (4 : Int)))) x.1), Unit.unit)) (fun x0 => (cond (upTo (IntKind.wrap IntKind.i64 (HSub.hSub (Nat.cast (List.length x.1) : Int) (4 : Int))) (Nat.cast (List.length x.1) : Int)) (cond (Bool.not (Decidable.decide (Eq (mkStr (List.drop (Int.toNat (IntKind.wrap IntKind.i64 (HSub.hSub (Nat.cast (List.length x.1) : Int) (4 : Int)))) x.1)) (mkStr (List.cons (IntKind.wrap IntKind.u8 x0.1) (List.cons (IntKind.wrap IntKind.u8 (Int.fdiv x0.1 (HPow.hPow (2 : Int) (Min.min (Int.toNat (8 : Int)) (IntKind.bits IntKind.u32))))) (List.cons (IntKind.wrap IntKind.u8 (Int.fdiv x0.1 (HPow.hPow (2 : Int) (Min.min (Int.toNat (16 : Int)) (IntKind.bits IntKind.u32))))) (List.cons (IntKind.wrap IntKind.u8 (Int.fdiv x0.1 (HPow.hPow (2 : Int) (Min.min (Int.toNat (24 : Int)) (IntKind.bits IntKind.u32))))) (List.nil))))))))) (Option.some ((List.nil), ((13 : Int), Unit.unit))) (cond (upTo (2 : Int) (Nat.cast (List.length (List.take (Int.toNat (IntKind.wrap IntKind.i64 (HSub.hSub (Nat.cast (List.length x.1) : Int) (4 : Int)))) x.1)) : Int)) (Option.bind (r38 ((200 : Int), Unit.unit) ((List.drop 2 (List.take (Int.toNat (IntKind.wrap IntKind.i64 (HSub.hSub (Nat.cast (List.length x.1) : Int) (4 : Int)))) x.1)), (Bool.false, Unit.unit))) (fun x1 => (Option.bind (loop (D := (Prod (Kd.T (.pair (.slice (.pair (.int .i64) (.pair (.int .i64) (.pair (.slice (.slice (.pair (.int .i64) (.pair (.int .i64) .unit)))) (.pair (.slice (.pair .str (.pair (.pair (.int .i64) (.pair (.int .i64) (.pair .str (.pair .bool .unit)))) .unit))) (.pair (.int .i64) (.pair (.int .i64) .unit))))))) (.pair (.int .i64) (.pair (.int .i64) (.pair (.slice (.int .u8)) (.pair .bool .unit)))))) (Kd.T .unit))) (O := (Sum (Kd.T (.pair (.pair (.slice (.pair (.int .i64) (.pair (.int .i64) (.pair (.slice (.slice (.pair (.int .i64) (.pair (.int .i64) .unit)))) (.pair (.slice (.pair .str (.pair (.pair (.int .i64) (.pair (.int .i64) (.pair .str (.pair .bool .unit)))) .unit))) (.pair (.int .i64) (.pair (.int .i64) .unit))))))) (.pair (.int .i64) (.pair (.slice (.int .u8)) (.pair .bool .unit)))) .unit)) (OutT (List.cons ((Ex3.exit 0), (Sh.mk (List.cons (7, (ASh.own (Kd.pair (Kd.int IntKind.i64) (Kd.pair (Kd.int IntKind.i64) (Kd.pair (Kd.slice (Kd.slice (Kd.pair (Kd.int IntKind.i64) (Kd.pair (Kd.int IntKind.i64) Kd.unit)))) (Kd.pair (Kd.slice (Kd.pair Kd.str (Kd.pair (Kd.pair (Kd.int IntKind.i64) (Kd.pair (Kd.int IntKind.i64) (Kd.pair Kd.str (Kd.pair Kd.bool Kd.unit)))) Kd.unit))) (Kd.pair (Kd.int IntKind.i64) (Kd.pair (Kd.int IntKind.i64) Kd.unit)))))))) (List.nil)) (List.cons (3072, (List.cons (ASh.lf (Kd.slice (Kd.int IntKind.u8))) (List.cons (ASh.lf Kd.bool) (List.nil)))) (List.nil)) (List.nil))) (List.nil))))) (fun x2 => (cond (Decidable.decide (LT.lt x2.1.2.2.1 x1.1.1)) (Option.bind (r39 (x2.1.2.1, Unit.unit) (x2.1.2.2.2.1, (x2.1.2.2.2.2.1, Unit.unit))) (fun x3 => (cond x3.2.2.1 (Option.some (Sum.inr (Sum.inl (((List.nil), ((3 : Int), (x3.2.1, (x3.2.2.1, Unit.unit)))), Unit.unit)))) (cond (fits (HAdd.hAdd (List.length x2.1.1) (List.length (List.cons (x3.1.1.1, (x3.1.1.2.1, (x3.1.1.2.2.1, (x3.1.1.2.2.2.1, (x3.1.1.2.2.2.2.1, (x3.1.1.2.2.2.2.2.1, Unit.unit)))))) (List.nil)))) 80) (Option.some (Sum.inl (((HAppend.hAppend x2.1.1 (List.cons (x3.1.1.1, (x3.1.1.2.1, (x3.1.1.2.2.1, (x3.1.1.2.2.2.1, (x3.1.1.2.2.2.2.1, (x3.1.1.2.2.2.2.2.1, Unit.unit)))))) (List.nil))), (x3.1.1.1, ((IntKind.wrap IntKind.i64 (HAdd.hAdd x2.1.2.2.1 (1 : Int))), (x3.2.1, (x3.2.2.1, Unit.unit))))), Unit.unit))) (Option.none))))) (Option.some (Sum.inr (Sum.inr (Sum.inl ((x2.1.1, (x2.1.2.2.2.1, (x2.1.2.2.2.2.1, Unit.unit))), Unit.unit))))))) (((List.nil), ((0 : Int), ((0 : Int), (x1.2.1, (x1.2.2.1, Unit.unit))))), Unit.unit)) (sumE (fun x2 => (Option.some (x2.1.1, (x2.1.2.1, Unit.unit)))) (sumE (fun x2 => (Option.bind (r23 (x2.1.1, Unit.unit)) (fun x3 => (cond (Bool.not (Decidable.decide (Eq x3.2.1 (0 : Int)))) (Option.some ((List.nil), ((3 : Int), Unit.unit))) (Option.bind (r15 (x3.1, (x.1, Unit.unit))) (fun x4 => (cond (Bool.not x4.1) (Option.some ((List.nil), ((3 : Int), Unit.unit))) (Option.some (x2.1.1, ((0 : Int), Unit.unit)))))))))) (emptyE)))))) (Option.none))) (Option.none)))) (Option.none)) (Option.none))) (Option.none))))
theorem r25_ok : PureOk Go.Proofs.Try.prog 0 (fun _ => True) 25 [(.slice (.int .u8))] [(.slice (.pair (.int .i64) (.pair (.int .i64) (.pair (.slice (.slice (.pair (.int .i64) (.pair (.int .i64) .unit)))) (.pair (.slice (.pair .str (.pair (.pair (.int .i64) (.pair (.int .i64) (.pair .str (.pair .bool .unit)))) .unit))) (.pair (.int .i64) (.pair (.int .i64) .unit))))))), (.int .i64)] r25 :=
  pureOk_of_run (F := specOf [(11, pureSpec [(.slice (.int .u8))] [(.int .u32)] r11), (38, memSpec [.ptr 0 0, .dat (.int .i64)] [(0, [.lf (.slice (.int .u8)), .lf .bool])] [(0, [.lf (.slice (.int .u8)), .lf .bool])] [(.int .i64)] r38), (39, memSpec [.ptr 0 0, .dat (.int .i64)] [(0, [.lf (.slice (.int .u8)), .lf .bool])] [(0, [.lf (.slice (.int .u8)), .lf .bool])] [(.pair (.int .i64) (.pair (.int .i64) (.pair (.slice (.slice (.pair (.int .i64) (.pair (.int .i64) .unit)))) (.pair (.slice (.pair .str (.pair (.pair (.int .i64) (.pair (.int .i64) (.pair .str (.pair .bool .unit)))) .unit))) (.pair (.int .i64) (.pair (.int .i64) .unit))))))] r39), (23, pureSpec [(.slice (.pair (.int .i64) (.pair (.int .i64) (.pair (.slice (.slice (.pair (.int .i64) (.pair (.int .i64) .unit)))) (.pair (.slice (.pair .str (.pair (.pair (.int .i64) (.pair (.int .i64) (.pair .str (.pair .bool .unit)))) .unit))) (.pair (.int .i64) (.pair (.int .i64) .unit)))))))] [(.slice (.int .u8)), (.int .i64)] r23), (15, pureSpec [(.slice (.int .u8)), (.slice (.int .u8))] [.bool] r15)]) (hs := hintOf [(0, ⟨⟨[(7, .own (.pair (.int .i64) (.pair (.int .i64) (.pair (.slice (.slice (.pair (.int .i64) (.pair (.int .i64) .unit)))) (.pair (.slice (.pair .str (.pair (.pair (.int .i64) (.pair (.int .i64) (.pair .str (.pair .bool .unit)))) .unit))) (.pair (.int .i64) (.pair (.int .i64) .unit))))))), (8, .lf (.int .i64)), (59, .lf (.int .i64))], [(3072, [.lf (.slice (.int .u8)), .lf .bool])], []⟩, [(.ret, ⟨[(2, .lf (.slice (.pair (.int .i64) (.pair (.int .i64) (.pair (.slice (.slice (.pair (.int .i64) (.pair (.int .i64) .unit)))) (.pair (.slice (.pair .str (.pair (.pair (.int .i64) (.pair (.int .i64) (.pair .str (.pair .bool .unit)))) .unit))) (.pair (.int .i64) (.pair (.int .i64) .unit)))))))), (3, .lf (.int .i64))], [(3072, [.lf (.slice (.int .u8)), .lf .bool])], []⟩), ((.exit 0), ⟨[(7, .own (.pair (.int .i64) (.pair (.int .i64) (.pair (.slice (.slice (.pair (.int .i64) (.pair (.int .i64) .unit)))) (.pair (.slice (.pair .str (.pair (.pair (.int .i64) (.pair (.int .i64) (.pair .str (.pair .bool .unit)))) .unit))) (.pair (.int .i64) (.pair (.int .i64) .unit)))))))], [(3072, [.lf (.slice (.int .u8)), .lf .bool])], []⟩)]⟩)]) stays_triv (specOf_cons (PureOk.spec r11_ok) (specOf_cons r38_ok (specOf_cons r39_ok (specOf_cons (PureOk.spec r23_ok) (specOf_cons (PureOk.spec r15_ok) specOf_nil))))) mixed Go.Proofs.Try.func25 rfl (by kernel_rfl) (fun _ => by kernel_rfl)

/-- terrier/bin.Put -/
noncomputable def r9 (x : (kdP [(.slice (.int .u8)), (.int .i64)]).T) : Option (kdP [(.slice (.int .u8))]).T :=
  (Option.bind (cloneByR (x.1, Unit.unit)) (fun x0 => (Option.bind (loop (D := (Prod (Kd.T (.pair (.slice (.int .u8)) (.pair (.int .u64) .unit))) (Kd.T .unit))) (O := (Sum (Kd.T (.pair (.pair (.slice (.int .u8)) (.pair (.int .u64) .unit)) .unit)) (OutT (List.nil)))) (fun x1 => (cond (Decidable.decide (LE.le (128 : Int) x1.1.2.1)) (cond (fits (HAdd.hAdd (List.length x1.1.1) (List.length (List.cons (IntKind.wrap IntKind.u8 (Nat.cast (BitVec.toNat (HOr.hOr (BitVec.ofInt 8 (IntKind.wrap IntKind.u8 x1.1.2.1)) (BitVec.ofInt 8 (128 : Int)))) : Int)) (List.nil)))) 1) (Option.some (Sum.inl (((HAppend.hAppend x1.1.1 (List.cons (IntKind.wrap IntKind.u8 (Nat.cast (BitVec.toNat (HOr.hOr (BitVec.ofInt 8 (IntKind.wrap IntKind.u8 x1.1.2.1)) (BitVec.ofInt 8 (128 : Int)))) : Int)) (List.nil))), ((Int.fdiv x1.1.2.1 (128 : Int)), Unit.unit)), Unit.unit))) (Option.none)) (Option.some (Sum.inr (Sum.inl ((x1.1.1, (x1.1.2.1, Unit.unit)), Unit.unit)))))) ((x0, ((IntKind.wrap IntKind.u64 (Nat.cast (BitVec.toNat (HXor.hXor (BitVec.ofInt 64 (IntKind.wrap IntKind.u64 (HMul.hMul (IntKind.wrap IntKind.u64 x.2.1) (2 : Int)))) (BitVec.ofInt 64 (IntKind.wrap IntKind.u64 (Int.fdiv x.2.1 (9223372036854775808 : Int)))))) : Int)), Unit.unit)), Unit.unit)) (sumE (fun x1 => (cond (fits (HAdd.hAdd (List.length x1.1.1) (List.length (List.cons (IntKind.wrap IntKind.u8 x1.1.2.1) (List.nil)))) 1) (Option.some ((HAppend.hAppend x1.1.1 (List.cons (IntKind.wrap IntKind.u8 x1.1.2.1) (List.nil))), Unit.unit)) (Option.none))) (emptyE)))))
theorem r9_ok : PureOk Go.Proofs.Try.prog 0 (fun _ => True) 9 [(.slice (.int .u8)), (.int .i64)] [(.slice (.int .u8))] r9 :=
  pureOk_of_run (F := specOf [(26, cloneByS)]) (hs := hintOf [(0, ⟨⟨[(5, .own (.int .u8)), (6, .lf (.int .u64))], [], []⟩, [((.exit 0), ⟨[(5, .own (.int .u8)), (6, .lf (.int .u64))], [], []⟩)]⟩)]) stays_triv (specOf_cons cloneByS_ok specOf_nil) mixed Go.Proofs.Try.func9 rfl (by kernel_rfl) (fun _ => by kernel_rfl)

/-- terrier/terrkeep2.packed -/
noncomputable def r24 (x : (kdP []).T) : Option (kdP [.bool]).T :=
  (Option.bind (r25 ((List.nil), Unit.unit)) (fun x0 => (cond (Decidable.decide (Eq x0.2.1 (14 : Int))) (Option.bind (r9 ((List.nil), ((Neg.neg (1 : Int)), Unit.unit))) (fun x1 => (Option.bind (r15 (x1.1, ((List.cons (1 : Int) (List.nil)), Unit.unit))) (fun x2 => (Option.some (x2.1, Unit.unit)))))) (Option.some (Bool.false, Unit.unit)))))
theorem r24_ok : PureOk Go.Proofs.Try.prog 0 (fun _ => True) 24 [] [.bool] r24 :=
  pureOk_of_run (F := specOf [(25, pureSpec [(.slice (.int .u8))] [(.slice (.pair (.int .i64) (.pair (.int .i64) (.pair (.slice (.slice (.pair (.int .i64) (.pair (.int .i64) .unit)))) (.pair (.slice (.pair .str (.pair (.pair (.int .i64) (.pair (.int .i64) (.pair .str (.pair .bool .unit)))) .unit))) (.pair (.int .i64) (.pair (.int .i64) .unit))))))), (.int .i64)] r25), (9, pureSpec [(.slice (.int .u8)), (.int .i64)] [(.slice (.int .u8))] r9), (15, pureSpec [(.slice (.int .u8)), (.slice (.int .u8))] [.bool] r15)]) (hs := hintOf []) stays_triv (specOf_cons (PureOk.spec r25_ok) (specOf_cons (PureOk.spec r9_ok) (specOf_cons (PureOk.spec r15_ok) specOf_nil))) mixed Go.Proofs.Try.func24 rfl (by kernel_rfl) (fun _ => by kernel_rfl)

/-- slices.EqualFunc[[]terrier/api.Feature,[]terrier/api.Feature,terrier/api.Feature,terrier/api.Feature] -/
noncomputable def r27_19 (x : (kdP [(.slice (.pair (.int .i64) (.pair (.int .i64) (.pair (.slice (.slice (.pair (.int .i64) (.pair (.int .i64) .unit)))) (.pair (.slice (.pair .str (.pair (.pair (.int .i64) (.pair (.int .i64) (.pair .str (.pair .bool .unit)))) .unit))) (.pair (.int .i64) (.pair (.int .i64) .unit))))))), (.slice (.pair (.int .i64) (.pair (.int .i64) (.pair (.slice (.slice (.pair (.int .i64) (.pair (.int .i64) .unit)))) (.pair (.slice (.pair .str (.pair (.pair (.int .i64) (.pair (.int .i64) (.pair .str (.pair .bool .unit)))) .unit))) (.pair (.int .i64) (.pair (.int .i64) .unit))))))), (.fn 19)]).T) : Option (kdP [.bool]).T :=
  (cond (Bool.not (Decidable.decide (Eq (Nat.cast (List.length x.1) : Int) (Nat.cast (List.length x.2.1) : Int)))) (Option.some (Bool.false, Unit.unit)) (Option.bind (loop (D := (Prod (Kd.T (.pair (.int .i64) .unit)) (Kd.T .unit))) (O := (Sum (Kd.T (.pair (.pair .bool .unit) .unit)) (OutT (List.cons ((Ex3.exit 0), (Sh.mk (List.nil) (List.nil) (List.nil))) (List.nil))))) (fun x0 => (cond (Decidable.decide (LT.lt x0.1.1 (Nat.cast (List.length x.1) : Int))) (cond (inB x0.1.1 (List.length x.1)) (Option.bind (GetElem?.getElem? x.1 (Int.toNat x0.1.1)) (fun x1 => (cond (inB x0.1.1 (List.length x.2.1)) (Option.bind (GetElem?.getElem? x.2.1 (Int.toNat x0.1.1)) (fun x2 => (Option.bind (r19 ((x1.1, (x1.2.1, (x1.2.2.1, (x1.2.2.2.1, (x1.2.2.2.2.1, (x1.2.2.2.2.2.1, Unit.unit)))))), ((x2.1, (x2.2.1, (x2.2.2.1, (x2.2.2.2.1, (x2.2.2.2.2.1, (x2.2.2.2.2.2.1, Unit.unit)))))), Unit.unit))) (fun x3 => (cond (Bool.not x3.1) (Option.some (Sum.inr (Sum.inl ((Bool.false, Unit.unit), Unit.unit)))) (Option.some (Sum.inl (((IntKind.wrap IntKind.i64 (HAdd.hAdd x0.1.1 (1 : Int))), Unit.unit), Unit.unit)))))))) (Option.none)))) (Option.none)) (Option.some (Sum.inr (Sum.inr (Sum.inl (Unit.unit, Unit.unit))))))) (((0 : Int), Unit.unit), Unit.unit)) (sumE (fun x0 => (Option.some (x0.1.1, Unit.unit))) (sumE (fun x0 => (Option.some (Bool.true, Unit.unit))) (emptyE)))))
theorem r27_19_ok : PureOk Go.Proofs.Try.prog 0 (fun _ => True) 27 [(.slice (.pair (.int .i64) (.pair (.int .i64) (.pair (.slice (.slice (.pair (.int .i64) (.pair (.int .i64) .unit)))) (.pair (.slice (.pair .str (.pair (.pair (.int .i64) (.pair (.int .i64) (.pair .str (.pair .bool .unit)))) .unit))) (.pair (.int .i64) (.pair (.int .i64) .unit))))))), (.slice (.pair (.int .i64) (.pair (.int .i64) (.pair (.slice (.slice (.pair (.int .i64) (.pair (.int .i64) .unit)))) (.pair (.slice (.pair .str (.pair (.pair (.int .i64) (.pair (.int .i64) (.pair .str (.pair .bool .unit)))) .unit))) (.pair (.int .i64) (.pair (.int .i64) .unit))))))), (.fn 19)] [.bool] r27_19 :=
  pureOk_of_run (F := specOf [(19, pureSpec [(.pair (.int .i64) (.pair (.int .i64) (.pair (.slice (.slice (.pair (.int .i64) (.pair (.int .i64) .unit)))) (.pair (.slice (.pair .str (.pair (.pair (.int .i64) (.pair (.int .i64) (.pair .str (.pair .bool .unit)))) .unit))) (.pair (.int .i64) (.pair (.int .i64) .unit)))))), (.pair (.int .i64) (.pair (.int .i64) (.pair (.slice (.slice (.pair (.int .i64) (.pair (.int .i64) .unit)))) (.pair (.slice (.pair .str (.pair (.pair (.int .i64) (.pair (.int .i64) (.pair .str (.pair .bool .unit)))) .unit))) (.pair (.int .i64) (.pair (.int .i64) .unit))))))] [.bool] r19)]) (hs := hintOf [(0, ⟨⟨[(17, .lf (.int .i64))], [], []⟩, [(.ret, ⟨[(6, .lf .bool)], [], []⟩), ((.exit 0), ⟨[], [], []⟩)]⟩)]) stays_triv (specOf_cons (PureOk.spec r19_ok) specOf_nil) mixed Go.Proofs.Try.func27 rfl (by kernel_rfl) (fun _ => by kernel_rfl)

/-- terrier/terrkeep2.BinBack -/
noncomputable def r6 (x : (kdP [(.slice (.int .i64)), (.int .i64), (.int .i64)]).T) : Option (kdP [.bool]).T :=
  (Option.bind (r16 (x.1, Unit.unit)) (fun x0 => (Option.bind (r23 (x0.1, Unit.unit)) (fun x1 => (cond (Bool.not x0.2.1) (Option.some (Bool.false, Unit.unit)) (Option.bind (r24 Unit.unit) (fun x2 => (cond (Bool.not x2.1) (Option.some (Bool.false, Unit.unit)) (cond (Bool.not (Decidable.decide (Eq x1.2.1 (0 : Int)))) (Option.some (Bool.false, Unit.unit)) (cond (Decidable.decide (LT.lt (Nat.cast (List.length x1.1) : Int) (6 : Int))) (Option.some (Bool.false, Unit.unit)) (Option.bind (r25 (x1.1, Unit.unit)) (fun x3 => (Option.bind (cloneByR (x1.1, Unit.unit)) (fun x4 => (Option.bind (r22 (x.2.1, ((Nat.cast (List.length x4) : Int), Unit.unit))) (fun x5 => (cond (inB x5.1 (List.length x4)) (Option.bind (GetElem?.getElem? x4 (Int.toNat x5.1)) (fun x6 => (Option.bind (r22 (x.2.2.1, ((255 : Int), Unit.unit))) (fun x7 => (cond (inB x5.1 (List.length x4)) (Option.bind (GetElem?.getElem? x4 (Int.toNat x5.1)) (fun x8 => (Option.bind (r25 ((List.set x4 (Int.toNat x5.1) (IntKind.wrap IntKind.u8 (Nat.cast (BitVec.toNat (HXor.hXor (BitVec.ofInt 8 x6) (BitVec.ofInt 8 (IntKind.wrap IntKind.u8 (IntKind.wrap IntKind.i64 (HAdd.hAdd (1 : Int) x7.1)))))) : Int))), Unit.unit)) (fun x9 => (cond (Decidable.decide (Eq x3.2.1 (0 : Int))) (Option.bind (r27_19 (x3.1, (x0.1, (Unit.unit, Unit.unit)))) (fun x10 => (cond x10.1 (Option.some ((Bool.not (Decidable.decide (Eq x9.2.1 (0 : Int)))), Unit.unit)) (Option.some (Bool.false, Unit.unit))))) (Option.some (Bool.false, Unit.unit))))))) (Option.none)))))) (Option.none))))))))))))))))))
theorem r6_ok : PureOk Go.Proofs.Try.prog 0 (fun _ => True) 6 [(.slice (.int .i64)), (.int .i64), (.int .i64)] [.bool] r6 :=
  pureOk_of_run (F := specOf [(16, pureSpec [(.slice (.int .i64))] [(.slice (.pair (.int .i64) (.pair (.int .i64) (.pair (.slice (.slice (.pair (.int .i64) (.pair (.int .i64) .unit)))) (.pair (.slice (.pair .str (.pair (.pair (.int .i64) (.pair (.int .i64) (.pair .str (.pair .bool .unit)))) .unit))) (.pair (.int .i64) (.pair (.int .i64) .unit))))))), .bool] r16), (23, pureSpec [(.slice (.pair (.int .i64) (.pair (.int .i64) (.pair (.slice (.slice (.pair (.int .i64) (.pair (.int .i64) .unit)))) (.pair (.slice (.pair .str (.pair (.pair (.int .i64) (.pair (.int .i64) (.pair .str (.pair .bool .unit)))) .unit))) (.pair (.int .i64) (.pair (.int .i64) .unit)))))))] [(.slice (.int .u8)), (.int .i64)] r23), (24, pureSpec [] [.bool] r24), (25, pureSpec [(.slice (.int .u8))] [(.slice (.pair (.int .i64) (.pair (.int .i64) (.pair (.slice (.slice (.pair (.int .i64) (.pair (.int .i64) .unit)))) (.pair (.slice (.pair .str (.pair (.pair (.int .i64) (.pair (.int .i64) (.pair .str (.pair .bool .unit)))) .unit))) (.pair (.int .i64) (.pair (.int .i64) .unit))))))), (.int .i64)] r25), (26, cloneByS), (22, pureSpec [(.int .i64), (.int .i64)] [(.int .i64)] r22), (27, pickS [([19], pureSpec [(.slice (.pair (.int .i64) (.pair (.int .i64) (.pair (.slice (.slice (.pair (.int .i64) (.pair (.int .i64) .unit)))) (.pair (.slice (.pair .str (.pair (.pair (.int .i64) (.pair (.int .i64) (.pair .str (.pair .bool .unit)))) .unit))) (.pair (.int .i64) (.pair (.int .i64) .unit))))))), (.slice (.pair (.int .i64) (.pair (.int .i64) (.pair (.slice (.slice (.pair (.int .i64) (.pair (.int .i64) .unit)))) (.pair (.slice (.pair .str (.pair (.pair (.int .i64) (.pair (.int .i64) (.pair .str (.pair .bool .unit)))) .unit))) (.pair (.int .i64) (.pair (.int .i64) .unit))))))), (.fn 19)] [.bool] r27_19)])]) (hs := hintOf []) stays_triv (specOf_cons (PureOk.spec r16_ok) (specOf_cons (PureOk.spec r23_ok) (specOf_cons (PureOk.spec r24_ok) (specOf_cons (PureOk.spec r25_ok) (specOf_cons cloneByS_ok (specOf_cons (PureOk.spec r22_ok) (specOf_cons (pickS_one (PureOk.spec r27_19_ok)) specOf_nil))))))) mixed Go.Proofs.Try.func6 rfl (by kernel_rfl) (fun _ => by kernel_rfl)

end Go.Proofs.Ytgabpbnndikheaa.I

namespace Go.Proofs.Ytgabpbnndikheaa.I
open Go.RowKit
set_option linter.unusedVariables false
/-- A loop over a list, told by recursion. -/
def foldL {α S O : Type} (body : Nat → α → S → Option (S ⊕ O)) (out : S → O) : Nat → List α → S → Option O
  | _, [], s => some (out s)
  | i, a :: l, s => match body i a s with
    | none => none
    | some (.inl s') => foldL body out (i + 1) l s'
    | some (.inr o) => some o
def stepTo {D S O : Type} (emb : Int → S → D) (i : Nat) : Option (S ⊕ O) → Option (D ⊕ O)
  | none => none
  | some (.inl s') => some (.inl (emb ((i : Int) + 1) s'))
  | some (.inr o) => some (.inr o)
theorem loop_from {α S D O : Type} {step : D → Option (D ⊕ O)} (emb : Int → S → D) (xs : List α) (body : Nat → α → S → Option (S ⊕ O)) (out : S → O)
    (hin : ∀ (i : Nat) a s, xs[i]? = some a → step (emb i s) = stepTo emb i (body i a s))
    (hend : ∀ s, step (emb (xs.length : Int) s) = some (.inr (out s))) : ∀ (l : List α) (i : Nat) (s : S), i ≤ xs.length → xs.drop i = l → loop step (emb i s) = foldL body out i l s
  | [], i, s, hi, hl => by
    have : i = xs.length := by
      have := congrArg List.length hl
      simp at this; omega
    subst this
    rw [loop_eq, hend]
    rfl
  | a :: l, i, s, hi, hl => by
    have ha : xs[i]? = some a := by
      have := congrArg (fun l => l[0]?) hl
      simpa using this
    have hlt : i < xs.length := (List.getElem?_eq_some_iff.1 ha).1
    have hd : xs.drop (i + 1) = l := by rw [← List.drop_drop, hl]; rfl
    rw [loop_eq, hin i a s ha]
    simp only [foldL]
    cases hb : body i a s with
    | none => rfl
    | some r =>
      cases r with
      | inr o => rfl
      | inl s' =>
        simp only [stepTo]
        exact loop_from emb xs body out hin hend l (i + 1) s' hlt hd
theorem loop_list {α S D O : Type} {step : D → Option (D ⊕ O)} (emb : Int → S → D) (xs : List α) (body : Nat → α → S → Option (S ⊕ O)) (out : S → O)
    (hin : ∀ (i : Nat) a s, xs[i]? = some a → step (emb i s) = stepTo emb i (body i a s))
    (hend : ∀ s, step (emb (xs.length : Int) s) = some (.inr (out s))) (s : S) : loop step (emb 0 s) = foldL body out 0 xs s :=
  loop_from emb xs body out hin hend xs 0 s (Nat.zero_le _) rfl
theorem wrap64 {n : Int} (h1 : -9223372036854775808 ≤ n) (h2 : n ≤ 9223372036854775807) : IntKind.wrap .i64 n = n := by
  unfold IntKind.wrap
  simp only [IntKind.signed, IntKind.bits]
  simp
  omega
theorem lt_of_get {α : Type} {xs : List α} {i : Nat} {a : α} (h : xs[i]? = some a) : i < xs.length := (List.getElem?_eq_some_iff.1 h).1
theorem dec_lt {i n : Nat} (h : i < n) : decide ((i : Int) < (n : Int)) = true := by simp; omega
theorem dec_nlt {i : Nat} : decide ((i : Int) < (i : Int)) = false := by simp
theorem inB_lt {i n : Nat} (h : i < n) : inB (i : Int) n = true := by unfold inB; simp; omega
theorem wrapS {i n : Nat} (h : i < n) (hn : n ≤ 9223372036854775807) : IntKind.wrap .i64 ((i : Int) + 1) = (i : Int) + 1 := wrap64 (by omega) (by omega)
theorem bytes_get {s : ByteArray} {i : Nat} : strAt s (i : Int) = s.data.toList[i]? := by
  unfold strAt
  rw [if_pos (by omega)]
  simp only [Int.toNat_natCast]
  show s[i]? = _
  cases h : s.data.toList[i]? with
  | none =>
    have := List.getElem?_eq_none_iff.1 h
    rw [Array.length_toList] at this
    exact getElem?_neg s i (by show ¬ i < s.data.size; omega)
  | some b =>
    have h2 := (List.getElem?_eq_some_iff.1 h)
    obtain ⟨h3, h4⟩ := h2
    rw [Array.length_toList] at h3
    rw [getElem?_pos s i h3]
    congr 1
theorem bytes_len {s : ByteArray} : s.size = s.data.toList.length := by rw [Array.length_toList]; rfl
end Go.Proofs.Ytgabpbnndikheaa.I

namespace Go.Proofs.Ytgabpbnndikheaa.I
open Go.RowKit
set_option linter.unusedVariables false

abbrev DPt := Int × Int × Unit
abbrev DVal := Int × Int × ByteArray × Bool × Unit
abbrev DAtt := ByteArray × DVal × Unit
abbrev DFea := Int × Int × List (List DPt) × List DAtt × Int × Int × Unit

def found {O : Type} : Option O → Option (Unit ⊕ O)
  | some o => some (.inr o)
  | none => some (.inl ())
theorem foldL_find {α O : Type} {body : Nat → α → Unit → Option (Unit ⊕ O)} {out : Unit → O} (g : α → Option O) : ∀ (xs : List α) (i : Nat), (∀ (j : Nat) a, xs[j]? = some a → body (i + j) a () = found (g a)) →
    foldL body out i xs () = some ((xs.findSome? g).getD (out ()))
  | [], i, _ => rfl
  | a :: l, i, h => by
    have h0 := h 0 a rfl
    simp only [Nat.add_zero] at h0
    simp only [foldL, h0, List.findSome?_cons]
    cases hg : g a with
    | some o => rfl
    | none =>
      simp only [found]
      exact foldL_find g l (i + 1) (fun j b hb => by
        have := h (j + 1) b (by simpa using hb)
        rwa [show i + 1 + j = i + (j + 1) by omega])

def okB (b : UInt8) : Bool := !(decide ((b.toNat : Int) < 32)) && (!(decide (126 < (b.toNat : Int))) && !(decide ((b.toNat : Int) = 34)))
theorem find_all {α : Type} (p : α → Bool) {O : Type} (o : O) : ∀ (xs : List α), xs.findSome? (fun a => if p a then none else some o) = if xs.all p then none else some o
  | [] => rfl
  | a :: l => by
    rw [List.findSome?_cons, List.all_cons]
    cases h : p a with
    | true => simp [find_all p o l]
    | false => simp
theorem r38_eq (s : ByteArray) (hs : s.size ≤ 9223372036854775807) : r68 (s, ()) = some (s.data.toList.all okB, ()) := by
  unfold r68
  rw [loop_list (fun i _ => ((i, ()), ())) s.data.toList (fun i b _ => found (if okB b then none else some (Sum.inl ((false, ()), ())))) (fun _ => Sum.inr (Sum.inl ((), ()))) (fun i b _ h => ?_) (fun _ => ?_) ()]
  · rw [foldL_find (fun b => if okB b then none else some (Sum.inl ((false, ()), ()))) s.data.toList 0 (fun j a _ => rfl), find_all]
    cases s.data.toList.all okB <;> rfl
  · have hl := lt_of_get h
    have hlen : s.size = s.data.toList.length := bytes_len
    simp only [hlen, dec_lt hl, bytes_get, h, cond_true, Option.bind_some]
    rw [wrapS hl (by omega)]
    unfold okB
    cases decide ((b.toNat : Int) < 32) <;> cases decide (126 < (b.toNat : Int)) <;> cases decide ((b.toNat : Int) = 34) <;> rfl
  · simp only [← bytes_len, dec_nlt, cond_false]

def checkV (v : DVal) : Int :=
  if v.1 < 0 then 8 else if 3 < v.1 then 8 else if ¬ v.1 = 1 ∧ ¬ v.2.1 = 0 then 3 else if ¬ v.1 = 2 ∧ ¬ v.2.2.1 = ByteArray.mk (List.toArray []) then 3 else if ¬ v.1 = 3 ∧ v.2.2.2.1 = true then 3
  else if v.2.1 < -1000000000000 then 2 else if 1000000000000 < v.2.1 then 2 else if 40 < (v.2.2.1.size : Int) then 2 else if v.2.2.1.data.toList.all okB = true then 0 else 3
theorem r10_eq (v : DVal) (hs : v.2.2.1.size ≤ 9223372036854775807) : r59 (v, ()) = some (checkV v, ()) := by
  obtain ⟨k, n, s, b, ⟨⟩⟩ := v
  have h38 := r38_eq s hs
  unfold r59 checkV
  simp only [h38, Option.bind_some]
  generalize s.data.toList.all okB = a
  clear h38 hs
  generalize s.size = z
  by_cases h1 : k < 0
  · simp [h1]
  by_cases h2 : 3 < k
  · simp [h1, h2]
  have hk : k = 0 ∨ k = 1 ∨ k = 2 ∨ k = 3 := by omega
  by_cases h3 : n = 0 <;> by_cases h4 : s = ByteArray.mk (List.toArray []) <;> by_cases h5 : n < -1000000000000 <;> by_cases h6 : 1000000000000 < n <;> by_cases h7 : 40 < (z : Int) <;> rcases hk with rfl | rfl | rfl | rfl <;> cases b <;> cases a <;> simp [h3, h4, h5, h6, h7]
end Go.Proofs.Ytgabpbnndikheaa.I

namespace Go.Proofs.Ytgabpbnndikheaa.I
open Go.RowKit
set_option linter.unusedVariables false
theorem loop_rule {D O : Type} {step : D → Option (D ⊕ O)} (μ : D → Nat) (Inv : D → Prop) (Post : O → Prop)
    (h : ∀ d, Inv d → (∃ d', step d = some (.inl d') ∧ Inv d' ∧ μ d' < μ d) ∨ ∃ o, step d = some (.inr o) ∧ Post o) : ∀ d, Inv d → ∃ o, loop step d = some o ∧ Post o := by
  have key : ∀ (n : Nat) (d : D), μ d = n → Inv d → ∃ o, loop step d = some o ∧ Post o := by
    intro n
    induction n using Nat.strongRecOn with
    | _ n ih =>
      intro d hd hI
      rcases h d hI with ⟨d', h1, h2, h3⟩ | ⟨o, h1, h2⟩
      · rw [loop_eq, h1]
        exact ih (μ d') (by omega) d' rfl h2
      · rw [loop_eq, h1]
        exact ⟨o, rfl, h2⟩
  exact fun d => key _ d rfl
theorem loop_up {S D O : Type} {step : D → Option (D ⊕ O)} (emb : Int → S → D) (n : Nat) (Inv : Nat → S → Prop) (Post : O → Prop)
    (hin : ∀ (i : Nat) (s : S), i < n → Inv i s → (∃ s', step (emb (i : Int) s) = some (.inl (emb ((i : Int) + 1) s')) ∧ Inv (i + 1) s') ∨ ∃ o, step (emb (i : Int) s) = some (.inr o) ∧ Post o)
    (hend : ∀ s, Inv n s → ∃ o, step (emb (n : Int) s) = some (.inr o) ∧ Post o) : ∀ (k : Nat) (s : S), k ≤ n → Inv k s → ∃ o, loop step (emb (k : Int) s) = some o ∧ Post o := by
  have key : ∀ (m k : Nat) (s : S), n - k = m → k ≤ n → Inv k s → ∃ o, loop step (emb (k : Int) s) = some o ∧ Post o := by
    intro m
    induction m with
    | zero =>
      intro k s hm hk hI
      have : k = n := by omega
      subst this
      obtain ⟨o, h1, h2⟩ := hend s hI
      rw [loop_eq, h1]
      exact ⟨o, rfl, h2⟩
    | succ m ih =>
      intro k s hm hk hI
      rcases hin k s (by omega) hI with ⟨s', h1, h2⟩ | ⟨o, h1, h2⟩
      · rw [loop_eq, h1]
        exact ih (k + 1) s' (by omega) (by omega) h2
      · rw [loop_eq, h1]
        exact ⟨o, rfl, h2⟩
  exact fun k s => key _ k s rfl
theorem bind_loop {D O R : Type} {step : D → Option (D ⊕ O)} {d : D} {f : O → Option R} {Post : O → Prop} {y : R} (h : ∃ o, loop step d = some o ∧ Post o) (k : ∀ o, Post o → f o = some y) : Option.bind (loop step d) f = some y := by
  obtain ⟨o, h1, h2⟩ := h
  rw [h1]
  exact k o h2
/-- From the first element on; only one way out. -/
theorem loop_all {S D O R : Type} {step : D → Option (D ⊕ O)} {f : O → Option R} {y : R} (emb : Int → S → D) (n : Nat) (Inv : Nat → S → Prop) (out : S → O)
    (hin : ∀ (i : Nat) (s : S), i < n → Inv i s → ∃ s', step (emb (i : Int) s) = some (.inl (emb ((i : Int) + 1) s')) ∧ Inv (i + 1) s')
    (hend : ∀ s, Inv n s → step (emb (n : Int) s) = some (.inr (out s))) (s0 : S) (h0 : Inv 0 s0) (k : ∀ s, Inv n s → f (out s) = some y) : Option.bind (loop step (emb 0 s0)) f = some y := by
  have h := loop_up (step := step) emb n Inv (fun o => ∃ s, Inv n s ∧ o = out s) (fun i s hi hs => .inl (hin i s hi hs)) (fun s hs => ⟨_, hend s hs, s, hs, rfl⟩) 0 s0 (Nat.zero_le _) h0
  refine bind_loop h ?_
  rintro o ⟨s, hs, rfl⟩
  exact k s hs
/-- The state after each round is told. -/
theorem loop_is {S D O R : Type} {step : D → Option (D ⊕ O)} {f : O → Option R} {y : R} (emb : Int → S → D) (n : Nat) (st : Nat → S) (out : S → O)
    (hin : ∀ (i : Nat), i < n → step (emb (i : Int) (st i)) = some (.inl (emb ((i : Int) + 1) (st (i + 1)))))
    (hend : step (emb (n : Int) (st n)) = some (.inr (out (st n)))) (k : f (out (st n)) = some y) (s0 : S) (h0 : s0 = st 0) : Option.bind (loop step (emb 0 s0)) f = some y :=
  loop_all emb n (fun i s => s = st i) out (fun i s hi hs => ⟨_, by subst hs; exact hin i hi, rfl⟩) (fun s hs => by subst hs; exact hend) s0 h0 (fun s hs => by subst hs; exact k)
/-- What a loop that has ended has come to. -/
theorem loop_post {S D O : Type} {step : D → Option (D ⊕ O)} {o : O} (emb : Int → S → D) (n : Nat) (Inv : Nat → S → Prop) (Post : O → Prop) (s0 : S) (h1 : loop step (emb 0 s0) = some o)
    (hin : ∀ (i : Nat) (s : S), i < n → Inv i s → (∃ s', step (emb (i : Int) s) = some (.inl (emb ((i : Int) + 1) s')) ∧ Inv (i + 1) s') ∨ ∃ o, step (emb (i : Int) s) = some (.inr o) ∧ Post o)
    (hend : ∀ s, Inv n s → ∃ o, step (emb (n : Int) s) = some (.inr o) ∧ Post o) (h0 : Inv 0 s0) : Post o := by
  obtain ⟨o', h2, h3⟩ := loop_up emb n Inv Post hin hend 0 s0 (Nat.zero_le _) h0
  have h2 : loop step (emb 0 s0) = some o' := h2
  rw [h1] at h2
  injection h2 with h2
  subst h2
  exact h3
/-- It comes to an answer of which this holds. -/
def Yl {α : Type} (o : Option α) (Q : α → Prop) : Prop := ∃ y, o = some y ∧ Q y
theorem yl_some {α : Type} {Q : α → Prop} {y : α} (h : Q y) : Yl (some y) Q := ⟨y, rfl, h⟩
theorem yl_bind {α β : Type} {o : Option α} {f : α → Option β} {P : α → Prop} {Q : β → Prop} (h : Yl o P) (k : ∀ x, P x → Yl (f x) Q) : Yl (Option.bind o f) Q := by
  obtain ⟨x, h1, h2⟩ := h
  rw [h1]
  exact k x h2
theorem yl_cond {α : Type} {b : Bool} {x y : Option α} {Q : α → Prop} (h : b = true → Yl x Q) (k : b = false → Yl y Q) : Yl (cond b x y) Q := by
  cases b
  · exact k rfl
  · exact h rfl
theorem yl_true {α : Type} {b : Bool} {x y : Option α} {Q : α → Prop} (hb : b = true) (h : Yl x Q) : Yl (cond b x y) Q := by
  subst hb; exact h
theorem yl_false {α : Type} {b : Bool} {x y : Option α} {Q : α → Prop} (hb : b = false) (h : Yl y Q) : Yl (cond b x y) Q := by
  subst hb; exact h
theorem yl_eq {α : Type} {o : Option α} {x : α} (h : o = some x) : Yl o (fun y => y = x) := ⟨x, h, rfl⟩
theorem take_succ {α : Type} {l : List α} {i : Nat} {a : α} (h : l[i]? = some a) : l.take (i + 1) = l.take i ++ [a] := by
  rw [List.take_add_one, h]; rfl
theorem get_lt {α : Type} {l : List α} {i : Nat} (h : i < l.length) : ∃ a, l[i]? = some a := ⟨_, List.getElem?_eq_getElem h⟩
theorem bind_of {α β : Type} {o : Option α} {x : α} {f : α → Option β} {y : β} (h : o = some x) (k : f x = some y) : Option.bind o f = some y := by
  rw [h]; exact k
end Go.Proofs.Ytgabpbnndikheaa.I

set_option linter.constructorNameAsVariable false
namespace Go.Proofs.Ytgabpbnndikheaa
def nameC (z : Bool) (n : Nat) : Bool := (decide (97 ≤ n) && decide (n ≤ 122)) || (z && ((n == 95) || (decide (48 ≤ n) && decide (n ≤ 57))))
def bt (s : ByteArray) (j : Nat) : Nat := (s.data.toList.getD j 0).toNat
def nameUpto (s : ByteArray) (k : Nat) : Bool := (List.range k).all fun j => nameC (decide (0 < j)) (bt s j)
def nameOk (s : ByteArray) : Bool := nameUpto s s.size && (decide (1 ≤ s.size) && decide (s.size ≤ 12))
theorem nameUpto_no {s : ByteArray} {i n : Nat} (hi : i < n) (h : nameC (decide (0 < i)) (bt s i) = false) : nameUpto s n = false := by
  unfold nameUpto
  rw [Bool.eq_false_iff]
  intro e
  rw [List.all_eq_true] at e
  have := e i (List.mem_range.2 hi)
  rw [h] at this
  cases this
theorem nameUpto_succ {s : ByteArray} {i : Nat} (h : nameUpto s i = true) (h2 : nameC (decide (0 < i)) (bt s i) = true) : nameUpto s (i + 1) = true := by
  unfold nameUpto at *
  rw [List.range_succ, List.all_append, h, Bool.true_and]
  simp only [List.all_cons, List.all_nil, Bool.and_true]
  exact h2
end Go.Proofs.Ytgabpbnndikheaa

namespace Go.Proofs.Ytgabpbnndikheaa.I
open Go.RowKit
set_option linter.unusedVariables false
set_option linter.constructorNameAsVariable false
theorem bt_at {s : ByteArray} {i : Nat} {b : UInt8} (h : s.data.toList[i]? = some b) : bt s i = b.toNat := by
  unfold bt
  rw [List.getD_eq_getElem?_getD, h]
  rfl
set_option maxHeartbeats 1000000 in
theorem name_eq (s : ByteArray) (h : s.size ≤ 9223372036854775807) : r58 (s, ()) = some (nameOk s, ()) := by
  unfold r58
  have hs : s.size = s.data.toList.length := bytes_len
  refine bind_loop (loop_up (fun (i : Int) (_ : Unit) => ((i, ()), ())) s.size (fun i _ => nameUpto s i = true) (fun o => (o = Sum.inl ((false, ()), ()) ∧ nameUpto s s.size = false) ∨ (o = Sum.inr (Sum.inl ((), ())) ∧ nameUpto s s.size = true)) (fun i u hi hI => ?_) (fun u hI => ?_) 0 () (Nat.zero_le _) rfl) ?_
  · obtain ⟨b, hb⟩ : ∃ b, s.data.toList[i]? = some b := get_lt (by omega)
    have hbt := bt_at hb
    have good : nameC (decide (0 < i)) (bt s i) = true → nameUpto s (i + 1) = true := nameUpto_succ hI
    have bad : nameC (decide (0 < i)) (bt s i) = false → nameUpto s s.size = false := nameUpto_no hi
    rw [hbt] at good bad
    have hi0 : decide ((0 : Int) < (i : Int)) = decide (0 < i) := by
      by_cases h0 : 0 < i
      · rw [decide_eq_true h0, decide_eq_true (by omega)]
      · rw [decide_eq_false h0, decide_eq_false (by omega)]
    simp only [dec_lt hi, bytes_get, hb, cond_true, Option.bind_some, wrapS hi h, hi0]
    have hcast : ∀ k : Nat, (decide ((k : Int) ≤ ((b.toNat : Nat) : Int)) = decide (k ≤ b.toNat)) := fun k => by
      by_cases h0 : k ≤ b.toNat
      · rw [decide_eq_true h0, decide_eq_true (by omega)]
      · rw [decide_eq_false h0, decide_eq_false (by omega)]
    have hcast2 : ∀ k : Nat, (decide (((b.toNat : Nat) : Int) ≤ (k : Int)) = decide (b.toNat ≤ k)) := fun k => by
      by_cases h0 : b.toNat ≤ k
      · rw [decide_eq_true h0, decide_eq_true (by omega)]
      · rw [decide_eq_false h0, decide_eq_false (by omega)]
    have hcast3 : decide (((b.toNat : Nat) : Int) = 95) = (b.toNat == 95) := by
      by_cases h0 : b.toNat = 95
      · rw [decide_eq_true (by omega), h0]; rfl
      · rw [decide_eq_false (by omega)]; simp [h0]
    have c1 : decide ((97 : Int) ≤ ((b.toNat : Nat) : Int)) = decide (97 ≤ b.toNat) := hcast 97
    have c2 : decide (((b.toNat : Nat) : Int) ≤ 122) = decide (b.toNat ≤ 122) := hcast2 122
    have c3 : decide ((48 : Int) ≤ ((b.toNat : Nat) : Int)) = decide (48 ≤ b.toNat) := hcast 48
    have c4 : decide (((b.toNat : Nat) : Int) ≤ 57) = decide (b.toNat ≤ 57) := hcast2 57
    simp only [c1, c2, c3, c4, hcast3]
    unfold nameC at good bad
    revert good bad
    generalize decide (97 ≤ b.toNat) = x1
    generalize decide (b.toNat ≤ 122) = x2
    generalize decide (48 ≤ b.toNat) = x3
    generalize decide (b.toNat ≤ 57) = x4
    generalize (b.toNat == 95) = x5
    generalize decide (0 < i) = x6
    intro good bad
    cases x1 <;> cases x2 <;> cases x3 <;> cases x4 <;> cases x5 <;> cases x6 <;> first
      | exact .inl ⟨(), rfl, good rfl⟩
      | exact .inr ⟨_, rfl, .inl ⟨rfl, bad rfl⟩⟩
  · exact ⟨_, by simp only [dec_nlt, cond_false], .inr ⟨rfl, hI⟩⟩
  · unfold nameOk
    rintro o (⟨rfl, h1⟩ | ⟨rfl, h1⟩)
    · rw [h1]
      rfl
    · rw [h1]
      simp only [sumE, Bool.true_and]
      by_cases h2 : 1 ≤ s.size
      · rw [decide_eq_true h2, decide_eq_true (show (1 : Int) ≤ (s.size : Int) by omega)]
        simp only [cond_true, Bool.true_and]
        by_cases h3 : s.size ≤ 12
        · rw [decide_eq_true h3, decide_eq_true (by omega)]
        · rw [decide_eq_false h3, decide_eq_false (by omega)]
      · rw [decide_eq_false h2, decide_eq_false (show ¬ (1 : Int) ≤ (s.size : Int) by omega)]
        rfl
end Go.Proofs.Ytgabpbnndikheaa.I

namespace Go.Proofs.Ytgabpbnndikheaa.I
open Go.RowKit
set_option linter.unusedVariables false

/-- Element by element, each with the key of the one before. -/
def scan {α K O : Type} (F : K → α → Option O) (key : α → K) (o : O) : K → List α → O
  | _, [] => o
  | p, a :: l => match F p a with
    | some e => e
    | none => scan F key o (key a) l
def prevOf {α K : Type} (key : α → K) (p0 : K) (xs : List α) : Nat → K
  | 0 => p0
  | i + 1 => match xs[i]? with
    | some a => key a
    | none => p0
theorem foldL_prev {α K O : Type} {body : Nat → α → Unit → Option (Unit ⊕ O)} (F : K → α → Option O) (key : α → K) (o : O) (p0 : K) (xs : List α) (h : ∀ i a, xs[i]? = some a → body i a () = found (F (prevOf key p0 xs i) a)) :
    ∀ (l : List α) (i : Nat), xs.drop i = l → foldL body (fun _ => o) i l () = some (scan F key o (prevOf key p0 xs i) l)
  | [], _, _ => rfl
  | a :: l, i, hl => by
    have ha : xs[i]? = some a := by
      have := congrArg (fun l => l[0]?) hl
      simpa using this
    simp only [foldL, h i a ha, scan]
    cases F (prevOf key p0 xs i) a with
    | some e => rfl
    | none =>
      simp only [found]
      rw [foldL_prev F key o p0 xs h l (i + 1) (by rw [← List.drop_drop, hl]; rfl)]
      simp only [prevOf, ha]
theorem scan_map {α K O R : Type} (G : O → R) (F : K → α → Option O) (key : α → K) (o : O) : ∀ (l : List α) (p : K), G (scan F key o p l) = scan (fun p a => (F p a).map G) key (G o) p l
  | [], _ => rfl
  | a :: l, p => by
    simp only [scan]
    cases F p a with
    | some e => rfl
    | none => exact scan_map G F key o l (key a)
theorem scan_congr {α K O : Type} {F F' : K → α → Option O} {key : α → K} {o : O} : ∀ {l : List α} {p : K}, (∀ p a, a ∈ l → F p a = F' p a) → scan F key o p l = scan F' key o p l
  | [], _, _ => rfl
  | a :: l, p, h => by
    simp only [scan]
    rw [h p a (by simp)]
    cases F' p a with
    | some e => rfl
    | none => exact scan_congr (fun p b hb => h p b (by simp [hb]))

theorem less_nilS {k : ByteArray} (h : nameOk k = true) : strLt (ByteArray.mk (List.toArray [])) k = true := by
  have hs : 1 ≤ k.size := by
    unfold nameOk at h
    simp at h
    omega
  unfold strLt
  rw [ByteArray.toList_eq, ByteArray.toList_eq]
  have hl : k.data.toList ≠ [] := by
    intro e
    have : k.data.toList.length = 0 := by rw [e]; rfl
    rw [Array.length_toList] at this
    have h2 : k.size = k.data.size := rfl
    omega
  cases hk : k.data.toList with
  | nil => exact absurd hk hl
  | cons x m => rfl
def attF (nils : Bool) (last : ByteArray) (a : DAtt) : Option Int :=
  if nameOk a.1 = false then some 16 else if strLt last a.1 = false then some 9 else if checkV a.2.1 ≠ 0 then some (checkV a.2.1) else if nils = false ∧ a.2.1.1 = 0 then some 3 else none
def attrsE (nils : Bool) (l : List DAtt) : Int := if 8 < l.length then 2 else scan (attF nils) (fun a => a.1) 0 (ByteArray.mk (List.toArray [])) l
def attW (e : Int) : ((Int × Unit) × Unit) ⊕ (Unit × Unit) ⊕ Empty := Sum.inl ((e, ()), ())
theorem attr_bounds {l : List DAtt} (h : small (.slice (.pair .str (.pair (.pair (.int .i64) (.pair (.int .i64) (.pair .str (.pair .bool .unit)))) .unit))) l) : l.length ≤ 9223372036854775807 ∧ ∀ a ∈ l, a.1.size ≤ 9223372036854775807 ∧ a.2.1.2.2.1.size ≤ 9223372036854775807 := by
  have hm : maxLen = 9223372036854775807 := rfl
  simp only [small, hm] at h
  exact ⟨h.1, fun a ha => ⟨(h.2 a ha).1, (h.2 a ha).2.1.2.2.1⟩⟩
set_option maxHeartbeats 1000000 in
theorem r22_eq (l : List DAtt) (nils : Bool) (hs : small (.slice (.pair .str (.pair (.pair (.int .i64) (.pair (.int .i64) (.pair .str (.pair .bool .unit)))) .unit))) l) : r43 (l, (nils, ())) = some (attrsE nils l, ()) := by
  obtain ⟨hl, hb⟩ := attr_bounds hs
  unfold r43 attrsE
  by_cases h8 : 8 < l.length
  · rw [if_pos h8]
    have : decide ((8 : Int) < (l.length : Int)) = true := by simp; omega
    simp only [this, cond_true]
  · rw [if_neg h8]
    have : decide ((8 : Int) < (l.length : Int)) = false := by simp; omega
    simp only [this, cond_false]
    rw [loop_list (fun i _ => ((i, ()), ())) l (fun i a _ => found ((attF nils (prevOf (fun a => a.1) (ByteArray.mk (List.toArray [])) l i) a).map attW)) (fun _ => Sum.inr (Sum.inl ((), ()))) (fun i a _ h => ?_) (fun _ => ?_) ()]
    · rw [foldL_prev (fun p a => (attF nils p a).map attW) (fun a => a.1) (Sum.inr (Sum.inl ((), ()))) (ByteArray.mk (List.toArray [])) l (fun i a _ => rfl) l 0 rfl]
      simp only [Option.bind_some]
      have := scan_map (sumE (fun x0 => some (x0.1.1, ())) (sumE (fun x0 => some ((0 : Int), ())) emptyE) : ((Int × Unit) × Unit) ⊕ (Unit × Unit) ⊕ Empty → Option (Int × Unit)) (fun p a => (attF nils p a).map attW) (fun a : DAtt => a.1) (Sum.inr (Sum.inl ((), ()))) l (ByteArray.mk (List.toArray []))
      refine this.trans ?_
      have h2 := scan_map (fun e : Int => some (e, ())) (attF nils) (fun a : DAtt => a.1) 0 l (ByteArray.mk (List.toArray []))
      refine Eq.trans ?_ h2.symm
      refine scan_congr (fun p a _ => ?_)
      cases attF nils p a <;> rfl
    · have hlt := lt_of_get h
      obtain ⟨hb1, hb2⟩ := hb a (List.mem_of_getElem? h)
      simp only [dec_lt hlt, inB_lt hlt, Int.toNat_natCast, h, cond_true, Option.bind_some]
      rw [wrapS hlt hl]
      have hn : r58 (a.1, ()) = some (nameOk a.1, ()) := by
        exact name_eq a.1 (by omega)
      have hv := r10_eq a.2.1 hb2
      have hv' : r59 ((a.2.1.1, (a.2.1.2.1, (a.2.1.2.2.1, (a.2.1.2.2.2.1, ())))), ()) = some (checkV a.2.1, ()) := hv
      simp only [hn, hv', Option.bind_some]
      cases hno : nameOk a.1 with
      | false => simp [attF, hno, found, stepTo, attW]
      | true =>
        simp only [Bool.not_true, cond_false]
        cases i with
        | zero =>
          have hd0 : decide ((0 : Int) < ((0 : Nat) : Int)) = false := by simp
          simp only [hd0, cond_false, prevOf]
          have hless := less_nilS hno
          by_cases hc : checkV a.2.1 = 0 <;> by_cases hk : a.2.1.1 = 0 <;> cases nils <;> simp [attF, hno, hless, hc, hk, found, stepTo, attW]
        | succ j =>
          have hd0 : decide ((0 : Int) < ((j + 1 : Nat) : Int)) = true := by simp
          obtain ⟨b, hbj⟩ : ∃ b, l[j]? = some b := ⟨_, List.getElem?_eq_getElem (by omega)⟩
          have hw : IntKind.wrap .i64 (((j + 1 : Nat) : Int) - 1) = (j : Int) := by rw [wrap64 (by omega) (by omega)]; omega
          simp only [hd0, cond_true, prevOf, hbj, hw, inB_lt (show j < l.length by omega), Int.toNat_natCast, Option.bind_some]
          cases hless : strLt b.1 a.1 with
          | false => simp [attF, hno, hless, found, stepTo, attW]
          | true =>
            by_cases hc : checkV a.2.1 = 0 <;> by_cases hk : a.2.1.1 = 0 <;> cases nils <;> simp [attF, hno, hless, hc, hk, found, stepTo, attW]
    · simp only [dec_nlt, cond_false]
end Go.Proofs.Ytgabpbnndikheaa.I

namespace Go.Proofs.Ytgabpbnndikheaa.I
open Go.RowKit
set_option linter.unusedVariables false
set_option linter.constructorNameAsVariable false

/-- A search by index. -/
theorem foldL_index {α O : Type} {body : Nat → α → Unit → Option (Unit ⊕ O)} {out : Unit → O} (p : α → Bool) (W : Int → O) : ∀ (xs : List α) (i : Nat), (∀ (j : Nat) a, xs[j]? = some a → body (i + j) a () = found (if p a then some (W ((i + j : Nat) : Int)) else none)) →
    ∃ r, foldL body out i xs () = some r ∧ ((xs.any p = true ∧ ∃ j : Nat, r = W (j : Int)) ∨ (xs.any p = false ∧ r = out ()))
  | [], i, _ => ⟨out (), rfl, .inr ⟨rfl, rfl⟩⟩
  | a :: l, i, h => by
    have h0 := h 0 a rfl
    simp only [Nat.add_zero] at h0
    simp only [foldL, h0, List.any_cons]
    cases hp : p a with
    | true => exact ⟨_, rfl, .inl ⟨rfl, i, rfl⟩⟩
    | false =>
      obtain ⟨r, h1, h2⟩ := foldL_index p W l (i + 1) (fun j b hb => by
        have := h (j + 1) b (by simpa using hb)
        rwa [show i + 1 + j = i + (j + 1) by omega])
      exact ⟨r, h1, by simpa using h2⟩
theorem loop_list1 {α S D O : Type} {step : D → Option (D ⊕ O)} (emb : Int → S → D) (xs : List α) (body : Nat → α → S → Option (S ⊕ O)) (out : S → O)
    (hin : ∀ (i : Nat) a s, xs[i + 1]? = some a → step (emb ((i : Int) + 1) s) = stepTo emb (i + 1) (body (i + 1) a s))
    (hend : ∀ s, step (emb (xs.length : Int) s) = some (.inr (out s))) (h1 : 1 ≤ xs.length) (s : S) : loop step (emb 1 s) = foldL body out 1 (xs.drop 1) s := by
  have key : ∀ (l : List α) (i : Nat) (s : S), i + 1 ≤ xs.length → xs.drop (i + 1) = l → loop step (emb ((i + 1 : Nat) : Int) s) = foldL body out (i + 1) l s := by
    intro l
    induction l with
    | nil =>
      intro i s hi hl
      have : i + 1 = xs.length := by
        have := congrArg List.length hl
        simp at this; omega
      rw [this, loop_eq, hend]
      rfl
    | cons a l ih =>
      intro i s hi hl
      have ha : xs[i + 1]? = some a := by
        have := congrArg (fun l => l[0]?) hl
        simpa using this
      have hlt : i + 1 < xs.length := (List.getElem?_eq_some_iff.1 ha).1
      have hd : xs.drop (i + 1 + 1) = l := by rw [← List.drop_drop, hl]; rfl
      have hs := hin i a s ha
      rw [loop_eq, show ((i + 1 : Nat) : Int) = (i : Int) + 1 by omega, hs]
      simp only [foldL]
      cases hb : body (i + 1) a s with
      | none => rfl
      | some r =>
        cases r with
        | inr o => rfl
        | inl s' =>
          simp only [stepTo]
          have := ih (i + 1) s' (by omega) hd
          rwa [show ((i + 1 + 1 : Nat) : Int) = ((i + 1 : Nat) : Int) + 1 by omega] at this
  exact key (xs.drop 1) 0 s h1 rfl

def far (q : DPt) : Bool := decide (q.1 < -1048576) || (decide (1048576 < q.1) || (decide (q.2.1 < -1048576) || decide (1048576 < q.2.1)))
def ptEq (a b : DPt) : Bool := decide (a.1 = b.1) && decide (a.2.1 = b.2.1)
def adj : List DPt → Bool
  | a :: b :: l => ptEq a b || adj (b :: l)
  | _ => false
def partE (kind : Int) (p : List DPt) : Int :=
  if p.any far = true then 1 else if kind = 1 then (if p.length = 1 then 0 else 3) else if kind = 2 then (if p.length < 2 then 3 else if adj p = true then 3 else 0) else 0
theorem clamp_iff (x : Int) : decide (x = maxI (-1048576) (minI x 1048576)) = !(decide (x < -1048576) || decide (1048576 < x)) := by
  rw [Bool.eq_iff_iff]
  simp only [decide_eq_true_eq, Bool.not_eq_true', Bool.or_eq_false_iff, decide_eq_false_iff_not]
  unfold maxI minI
  split <;> split <;> omega
theorem r86_eq (q : DPt) : r64 (q, ()) = some (far q, ()) := by
  obtain ⟨x, y, ⟨⟩⟩ := q
  unfold r64 r65 r70 r75
  simp only [Option.bind_some]
  have hw : IntKind.wrap .i64 (0 - 1048576) = -1048576 := by rw [wrap64 (by omega) (by omega)]; rfl
  rw [hw, clamp_iff, clamp_iff]
  unfold far
  congr 2
  simp only
  cases decide (x < -1048576) <;> cases decide (1048576 < x) <;> cases decide (y < -1048576) <;> cases decide (1048576 < y) <;> rfl
theorem r48_eq (p : List DPt) : r55 (p, ()) = some (decide ((200 : Int) < (p.length : Int)), ()) := rfl
theorem r85_eq (p : List DPt) (hl : p.length ≤ 9223372036854775807) : r63_64 (p, ((), ())) = some (p.any far, ()) := by
  unfold r63_64 r69_64
  rw [loop_list (fun i _ => ((i, ()), ())) p (fun i a _ => found (if far a then some (Sum.inl (((i : Int), ()), ())) else none)) (fun _ => Sum.inr (Sum.inl ((), ()))) (fun i a _ h => ?_) (fun _ => ?_) ()]
  · obtain ⟨r, h1, h2⟩ := foldL_index (body := fun (i : Nat) a (_ : Unit) => found (if far a then some (Sum.inl (((i : Int), ()), ())) else none)) (out := fun _ => (Sum.inr (Sum.inl ((), ())) : ((Int × Unit) × Unit) ⊕ (Unit × Unit) ⊕ Empty)) far (fun i => Sum.inl ((i, ()), ())) p 0 (fun j a _ => rfl)
    rw [h1]
    rcases h2 with ⟨h2, j, rfl⟩ | ⟨h2, rfl⟩
    · rw [h2]; simp [sumE]
    · rw [h2]; rfl
  · have hlt := lt_of_get h
    have h86 : r64 ((a.1, (a.2.1, ())), ()) = some (far a, ()) := r86_eq a
    simp only [dec_lt hlt, inB_lt hlt, Int.toNat_natCast, h, cond_true, Option.bind_some, h86]
    rw [wrapS hlt hl]
    cases far a <;> rfl
  · simp only [dec_nlt, cond_false]
end Go.Proofs.Ytgabpbnndikheaa.I

namespace Go.Proofs.Ytgabpbnndikheaa.I
open Go.RowKit
set_option linter.unusedVariables false
set_option linter.constructorNameAsVariable false

theorem ptEq_comm (a b : DPt) : ptEq a b = ptEq b a := by
  unfold ptEq
  have h1 : decide (a.1 = b.1) = decide (b.1 = a.1) := decide_eq_decide.2 eq_comm
  have h2 : decide (a.2.1 = b.2.1) = decide (b.2.1 = a.2.1) := decide_eq_decide.2 eq_comm
  rw [h1, h2]
abbrev O3 := ((Int × Unit) × Unit) ⊕ (Unit × Unit) ⊕ Empty
def w3 (e : Int) : O3 := Sum.inl ((e, ()), ())
def w0 : O3 := Sum.inr (Sum.inl ((), ()))
theorem scan_adj (p : List DPt) (a : DPt) : scan (fun p b => if ptEq p b then some (w3 3) else none) id w0 a p = if adj (a :: p) then w3 3 else w0 := by
  induction p generalizing a with
  | nil => simp [adj, scan]
  | cons b l ih =>
    simp only [adj, scan]
    by_cases h : ptEq a b = true
    · simp [h]
    · simpa [h] using ih b
set_option maxHeartbeats 1000000 in
theorem r49_eq (kind : Int) (p : List DPt) (hl : p.length ≤ 9223372036854775807) : r56 (kind, (p, ())) = some (partE kind p, ()) := by
  unfold r56 partE
  simp only [r85_eq p hl, Option.bind_some]
  cases hf : p.any far with
  | true => simp
  | false =>
    simp only [cond_false, Bool.false_eq_true, if_false]
    by_cases h1 : kind = 1
    · subst h1
      by_cases h2 : p.length = 1
      · simp [h2]
      · have : ¬ ((p.length : Int) = 1) := by omega
        simp [h2, this]
    · by_cases h2 : kind = 2
      · subst h2
        by_cases h3 : p.length < 2
        · have : ((p.length : Int) < 2) := by omega
          simp [h3, this]
        · have h3' : ¬ ((p.length : Int) < 2) := by omega
          simp only [h1, h3, h3', decide_false, decide_true, cond_true, cond_false, if_false, if_true]
          rw [loop_list1 (fun i _ => ((i, ()), ())) p (fun i a _ => found (if ptEq (prevOf id a p i) a then some (w3 3) else none)) (fun _ => w0) (fun i a _ h => ?_) (fun _ => ?_) (by omega) ()]
          · obtain ⟨a, l, rfl⟩ : ∃ a l, p = a :: l := by
              cases p with
              | nil => simp at h3
              | cons a l => exact ⟨a, l, rfl⟩
            have := foldL_prev (body := fun i (b : DPt) _ => found (if ptEq (prevOf id b (a :: l) i) b then some (w3 3) else none)) (fun p b => if ptEq p b then some (w3 3) else none) id w0 a (a :: l) (fun i b hb => by
              cases i with
              | zero => simp at hb; subst hb; rfl
              | succ i =>
                have hlt := lt_of_get hb
                have : ∃ c, (a :: l)[i]? = some c := ⟨_, List.getElem?_eq_getElem (by omega)⟩
                obtain ⟨c, hc⟩ := this
                simp only [prevOf, hc]) l 1 rfl
            rw [show (a :: l).drop 1 = l from rfl, this]
            simp only [prevOf, List.getElem?_cons_zero, id, scan_adj, Option.bind_some]
            cases adj (a :: l) <;> rfl
          · have hlt := lt_of_get h
            obtain ⟨b, hb⟩ : ∃ b, p[i]? = some b := ⟨_, List.getElem?_eq_getElem (by omega)⟩
            have e1 : ((i : Int) + 1) = ((i + 1 : Nat) : Int) := by omega
            have hw : IntKind.wrap .i64 (((i + 1 : Nat) : Int) - 1) = (i : Int) := by rw [wrap64 (by omega) (by omega)]; omega
            simp only [e1, dec_lt hlt, inB_lt hlt, Int.toNat_natCast, h, cond_true, Option.bind_some, hw, inB_lt (show i < p.length by omega), hb, prevOf, id]
            rw [wrapS hlt hl, ← show ptEq a b = (decide (a.1 = b.1) && decide (a.2.1 = b.2.1)) from rfl, ptEq_comm a b]
            cases ptEq b a <;> rfl
          · simp only [dec_nlt, cond_false]
            rfl
      · simp [h1, h2]

/-- Both checks of parts, as far as the areas. -/
def partsE (area : Option (Int × Unit)) (kind : Int) (l : List (List DPt)) : Option (Int × Unit) :=
  if kind < 1 then some (8, ()) else if 3 < kind then some (8, ()) else if 20 < l.length then some (2, ()) else if l.any (fun p => decide ((200 : Int) < (p.length : Int))) = true then some (2, ()) else if l.length = 0 then some (4, ())
  else match l.findSome? (fun p => if partE kind p = 0 then none else some (partE kind p)) with
    | some e => some (e, ())
    | none => if kind = 3 then area else some (0, ())
theorem parts_bounds {l : List (List DPt)} (h : small (.slice (.slice (.pair (.int .i64) (.pair (.int .i64) .unit)))) l) : l.length ≤ 9223372036854775807 ∧ ∀ p ∈ l, p.length ≤ 9223372036854775807 := by
  have hm : maxLen = 9223372036854775807 := rfl
  simp only [small, hm] at h
  exact ⟨h.1, fun p hp => (h.2 p hp).1⟩
theorem find_w3 (F : List DPt → Int) (l : List (List DPt)) : (l.findSome? (fun p => if F p = 0 then none else some (w3 (F p)))).getD w0 = match l.findSome? (fun p => if F p = 0 then none else some (F p)) with
    | some e => w3 e
    | none => w0 := by
  induction l with
  | nil => rfl
  | cons p l ih =>
    simp only [List.findSome?_cons]
    by_cases h : F p = 0
    · simpa [h] using ih
    · simp [h]
theorem r47_eq (l : List (List DPt)) (hl : l.length ≤ 9223372036854775807) : r54_55 (l, ((), ())) = some (l.any (fun p => decide ((200 : Int) < (p.length : Int))), ()) := by
  unfold r54_55 r62_55
  rw [loop_list (fun i _ => ((i, ()), ())) l (fun i p _ => found (if (fun p : List DPt => decide ((200 : Int) < (p.length : Int))) p then some (w3 (i : Int)) else none)) (fun _ => w0) (fun i a _ h => ?_) (fun _ => ?_) ()]
  · obtain ⟨r, h1, h2⟩ := foldL_index (body := fun (i : Nat) p (_ : Unit) => found (if (fun p : List DPt => decide ((200 : Int) < (p.length : Int))) p then some (w3 (i : Int)) else none)) (out := fun _ => w0) (fun p : List DPt => decide ((200 : Int) < (p.length : Int))) w3 l 0 (fun j a _ => by rw [Nat.zero_add])
    rw [h1]
    rcases h2 with ⟨h2, j, rfl⟩ | ⟨h2, rfl⟩
    · rw [h2]; simp [sumE, w3]
    · rw [h2]; rfl
  · have hlt := lt_of_get h
    simp only [dec_lt hlt, inB_lt hlt, Int.toNat_natCast, h, cond_true, Option.bind_some]
    rw [wrapS hlt hl, r48_eq a]
    by_cases hd : (200 : Int) < (a.length : Int)
    · simp [hd, found, stepTo, w3]
    · simp [hd, found, stepTo]
  · simp only [dec_nlt, cond_false]
    rfl
set_option maxHeartbeats 1000000 in
theorem r20_eq (kind : Int) (l : List (List DPt)) (hs : small (.slice (.slice (.pair (.int .i64) (.pair (.int .i64) .unit)))) l) : r42 (kind, (l, ())) = partsE (Option.bind (r57 (l, ())) fun x => some (x.1, ())) kind l := by
  obtain ⟨hl, hb⟩ := parts_bounds hs
  unfold r42 partsE
  simp only [r47_eq l hl, Option.bind_some]
  by_cases h1 : kind < 1
  · simp [h1]
  by_cases h2 : 3 < kind
  · simp [h1, h2]
  by_cases h3 : 20 < l.length
  · have : (20 : Int) < (l.length : Int) := by omega
    simp [h1, h2, h3, this]
  have h3' : ¬ (20 : Int) < (l.length : Int) := by omega
  generalize l.any (fun p => decide ((200 : Int) < (p.length : Int))) = long
  by_cases h4 : l.length = 0
  · cases long <;> simp [h1, h2, h4]
  have h4' : ¬ (l.length : Int) = 0 := by omega
  simp only [h1, h2, h3, h3', h4, h4', decide_false, cond_false, if_false]
  cases long with
  | true => rfl
  | false =>
    simp only [cond_false, Bool.false_eq_true, if_false]
    rw [loop_list (fun i _ => ((i, ()), ())) l (fun i p _ => found (if partE kind p = 0 then none else some (w3 (partE kind p)))) (fun _ => w0) (fun i a _ h => ?_) (fun _ => ?_) ()]
    · rw [foldL_find (fun p => if partE kind p = 0 then none else some (w3 (partE kind p))) l 0 (fun j a _ => rfl), find_w3 (partE kind) l]
      simp only [Option.bind_some]
      cases l.findSome? (fun p => if partE kind p = 0 then none else some (partE kind p)) with
      | some e => rfl
      | none =>
        by_cases h5 : kind = 3
        · simp [h5, w0, sumE]
        · simp [h5, w0, sumE]
    · have hlt := lt_of_get h
      simp only [dec_lt hlt, inB_lt hlt, Int.toNat_natCast, h, cond_true, Option.bind_some, r49_eq kind a (hb a (List.mem_of_getElem? h))]
      rw [wrapS hlt hl]
      by_cases hp : partE kind a = 0
      · simp [hp, found, stepTo]
      · simp [hp, found, stepTo, w3]
    · simp only [dec_nlt, cond_false]
      rfl
end Go.Proofs.Ytgabpbnndikheaa.I
