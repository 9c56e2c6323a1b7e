import Derived.Test.YtgabpbnndikheaaDoorNa
import Derived.Test.YtgabpbnndikheaaDoorSh
import Derived.Test.YtgabpbnndikheaaDoorUb
import Derived.Lib.AsciiSet
import Derived.Deep.WholeRow
import Derived.Laws.RangeString
set_option linter.constructorNameAsVariable false
/-! Trimming by a set of bytes. -/
namespace Go.Proofs.YtgabpbnndikheaaDoor
open Go.RowKit Go.Proofs.YtgabpbnndikheaaDoorW.PrintWords

def SetAt (w : World) (b : Nat) (f : UInt8 → Bool) : Prop := ∀ x : UInt8, w.cell? ⟨b, x.toNat, none⟩ = some (.bool (f x))
theorem str_ret {a b : ByteArray} (h : a = b) : Ending.returned (.string a) = .returned (.string b) := by rw [h]
theorem str_val {a b : ByteArray} (h : a = b) : Value.string a = .string b := by rw [h]
theorem tail_ext (x : UInt8) (m : List UInt8) (n : Nat) (hn : n = m.length + 1) : (⟨(x :: m).toArray⟩ : ByteArray).extract 1 n = ⟨m.toArray⟩ := by
  subst hn
  apply ByteArray.ext
  rw [ByteArray.data_extract]
  apply Array.toList_inj.1
  rw [Array.toList_extract]
  simp [List.extract_eq_take_drop]
theorem head_ext (m : List UInt8) (x : UInt8) (s : ByteArray) (hs : s = ⟨(m ++ [x]).toArray⟩) : s.extract 0 m.length = ⟨m.toArray⟩ := by
  subst hs
  apply ByteArray.ext
  rw [ByteArray.data_extract]
  apply Array.toList_inj.1
  rw [Array.toList_extract]
  simp [List.extract_eq_take_drop]
set_option maxRecDepth 100000 in
theorem trimL_any (f : UInt8 → Bool) (l : List UInt8) (b : Nat) (w : World) (h : SetAt w b f) (hm : l.length ≤ 9223372036854775807) :
    Calls Tryd.prog 79 #[.string ⟨l.toArray⟩, .pointer (some ⟨b, 0, none⟩)] w fun e w' => e = .returned (.string ⟨(l.dropWhile f).toArray⟩) ∧ w = w' := by
  have HS := Aside0.mk h
  clear h
  go_enter Tryd.func79, Tryd.ntmps79
  go_wp2
  go_loopw [0] (fun u wr => ∃ m : List UInt8, u = .string ⟨m.toArray⟩ ∧ m.length ≤ 9223372036854775807 ∧ Aside0 (l.dropWhile f = m.dropWhile f) ∧ w = wr) (fun u _ => match u with | .string s => s.size | _ => 0)
  case atStart => exact ⟨l, rfl, hm, ⟨rfl⟩, rfl⟩
  case round =>
    obtain ⟨m, rfl, hm2, HE, rfl⟩ := hrel
    cases m with
    | nil =>
      go_wp2
      go_ret
      exact ⟨by rw [HE.out]; rfl, rfl⟩
    | cons x m =>
      have hc := Tryd.asciiSet_contains b x (f x) w (HS.out x)
      generalize hfx : f x = g at hc
      have HC := Aside0.mk hc
      clear hc
      cases g
      · go_wp2_with (go_at_call 104; refine HC.out.mono ?_; rintro e w1 ⟨rfl, rfl⟩)
        go_ret
        exact ⟨str_ret (by rw [HE.out, List.dropWhile_cons, hfx]; rfl), rfl⟩
      · go_wp2_with (go_at_call 104; refine HC.out.mono ?_; rintro e w1 ⟨rfl, rfl⟩)
        go_roundw
        case rel => exact ⟨m, str_val (tail_ext x m _ (by simp)), by simp at hm2; omega, ⟨by rw [HE.out, List.dropWhile_cons, hfx]; rfl⟩, by first | rfl | trivial⟩
        case measure =>
          have hz : (⟨(x :: m).toArray⟩ : ByteArray).size = m.length + 1 := by simp [ByteArray.size]
          simp
          omega
/-- Without the last ones of a kind. -/
def dropEnd (f : UInt8 → Bool) (l : List UInt8) : List UInt8 := (l.reverse.dropWhile f).reverse
theorem dropEnd_last (f : UInt8 → Bool) (l : List UInt8) (x : UInt8) : dropEnd f (l ++ [x]) = if f x = true then dropEnd f l else l ++ [x] := by
  unfold dropEnd
  rw [List.reverse_append]
  simp only [List.reverse_cons, List.reverse_nil, List.nil_append, List.singleton_append, List.dropWhile_cons]
  split <;> simp
set_option maxRecDepth 100000 in
theorem trimR_any (f : UInt8 → Bool) (l : List UInt8) (b : Nat) (w : World) (h : SetAt w b f) (hm : l.length ≤ 9223372036854775807) :
    Calls Tryd.prog 80 #[.string ⟨l.toArray⟩, .pointer (some ⟨b, 0, none⟩)] w fun e w' => e = .returned (.string ⟨(dropEnd f l).toArray⟩) ∧ w = w' := by
  have HS := Aside0.mk h
  clear h
  go_enter Tryd.func80, Tryd.ntmps80
  go_wp2
  go_loopw [0] (fun u wr => ∃ m : List UInt8, u = .string ⟨m.toArray⟩ ∧ m.length ≤ 9223372036854775807 ∧ Aside0 (dropEnd f l = dropEnd f m) ∧ w = wr) (fun u _ => match u with | .string s => s.size | _ => 0)
  case atStart => exact ⟨l, rfl, hm, ⟨rfl⟩, rfl⟩
  case round =>
    obtain ⟨m, rfl, hm2, HE, rfl⟩ := hrel
    rcases List.eq_nil_or_concat m with rfl | ⟨m, x, rfl⟩
    · go_wp2
      go_ret
      exact ⟨by rw [HE.out]; rfl, rfl⟩
    · rw [List.concat_eq_append] at hm2 HE ⊢
      rw [List.length_append, List.length_singleton] at hm2
      have hc := Tryd.asciiSet_contains b x (f x) w (HS.out x)
      obtain ⟨s, hs⟩ : ∃ s : ByteArray, s = ⟨(m ++ [x]).toArray⟩ := ⟨_, rfl⟩
      have hsz : s.size = m.length + 1 := by rw [hs]; simp [ByteArray.size]
      have hlt : m.length < s.size := by omega
      have hlast : s[m.length] = x := by
        subst hs
        simp [ByteArray.getElem_eq_getElem_data]
      have n1 : IntKind.i64.wrap ((s.size : Int) - 1) = (m.length : Int) := by rw [IntKind.wrap_i64]; omega
      have n2 : wrap64 ((s.size : Int) - 1) = (m.length : Int) := wrap64_id (by omega) (by omega) |>.trans (by omega)
      have n0 : decide ((0 : Int) < (s.size : Int)) = true := by simp; omega
      have hi : (m.length : Int) < (s.size : Int) := by omega
      generalize hfx : f x = g at hc
      have HC := Aside0.mk hc
      have HSS := Aside0.mk hs
      have HSZ := Aside0.mk hsz
      rw [← hs]
      clear hc hs hsz
      cases g
      · go_wp2_with (go_at_call 104; refine HC.out.mono ?_; rintro e w1 ⟨rfl, rfl⟩)
        go_ret
        exact ⟨str_ret (by rw [HE.out, dropEnd_last, hfx, HSS.out]; rfl), rfl⟩
      · go_wp2_with (go_at_call 104; refine HC.out.mono ?_; rintro e w1 ⟨rfl, rfl⟩)
        go_roundw
        case rel => exact ⟨m, str_val (head_ext m x _ HSS.out), by omega, ⟨by rw [HE.out, dropEnd_last, hfx]; rfl⟩, by first | rfl | trivial⟩
        case measure =>
          have hz := HSZ.out
          simp [ByteArray.size_extract]
          omega
end Go.Proofs.YtgabpbnndikheaaDoor

set_option linter.constructorNameAsVariable false
/-! strings.Trim by a set of several ASCII bytes. -/
namespace Go.Proofs.YtgabpbnndikheaaDoor
open Go.RowKit Go.Proofs.YtgabpbnndikheaaDoorW.PrintWords

def trimB (f : UInt8 → Bool) (l : List UInt8) : List UInt8 := (dropEnd f l).dropWhile f
theorem setAt_cells {w : World} {b t : Nat} {l : List UInt8} (h : w.heap[b]? = some (.cells (Lib.setCells l) t (0, 0))) : SetAt w b (fun x => l.contains x) := by
  intro x
  unfold World.cell?
  rw [h]
  simp [Lib.setCells_at]
theorem zero_set (w : World) : (zeroValue 106).run Tryd.prog w = .ok (.agg (Array.replicate 256 (.bool false))) w := by
  go_simp
  kernel_rfl
theorem set_one (l : List UInt8) : (Lib.setCells l).all (·.oneCell') = true := by
  rw [Lib.setCells_eq, Array.all_map]
  apply Array.all_eq_true.2
  intro i hi
  rfl
set_option maxHeartbeats 1000000 in
set_option maxRecDepth 100000 in
theorem trim_any (l : List UInt8) (cut : ByteArray) (w : World) (hl : l ≠ []) (hm : l.length ≤ 9223372036854775807) (hc1 : 2 ≤ cut.size) (hc2 : cut.size < 4294967281) (hascii : ∀ (j : Nat) b, cut.data.toList[j]? = some b → b.toNat < 128) :
    Calls Tryd.prog 44 #[.string ⟨l.toArray⟩, .string cut] w fun e w' => e = .returned (.string ⟨(trimB (fun x => cut.data.toList.contains x) l).toArray⟩) ∧ Below w.heap.size w w' := by
  have HM := Aside0.mk (fun W => Tryd.strings_makeASCIISet zero_set cut W hc2 hascii)
  obtain ⟨s, hs⟩ : ∃ s : ByteArray, s = ⟨l.toArray⟩ := ⟨_, rfl⟩
  have hsz : s.size = l.length := by rw [hs]; simp [ByteArray.size]
  have hs1 : s.toList ≠ [] := by rw [ByteArray.toList_eq, hs]; simpa using hl
  have hs2 : s.toList.isEmpty = false := by simpa using hs1
  have hs3 : cut.toList ≠ [] := by
    rw [ByteArray.toList_eq]
    intro e
    have : cut.data.toList.length = 0 := by rw [e]; rfl
    rw [Array.length_toList] at this
    have h2 : cut.size = cut.data.size := rfl
    omega
  have hs4 : cut.toList.isEmpty = false := by simpa using hs3
  have h1 : ((cut.size : Int) == 1) = false := by simp; omega
  have hz := Lib.setCells_size cut.data.toList
  have hst := run_storeCells_new (P := Tryd.prog) (w.alloc (.cells (Lib.setCells cut.data.toList) 106)) 106 Tryd.zeroCells106 (Lib.setCells cut.data.toList) (by rw [hz]; kernel_rfl) (by rw [hz]; kernel_rfl) (set_one _)
  rw [World.size_alloc] at hst
  have HSS := Aside0.mk hs
  have hT : SetAt ((w.alloc (.cells (Lib.setCells cut.data.toList) 106)).alloc (.cells (Lib.setCells cut.data.toList) 106)) (w.heap.size + 1) (fun x => cut.data.toList.contains x) := by
    have := heap_alloc_new (w.alloc (.cells (Lib.setCells cut.data.toList) 106)) (.cells (Lib.setCells cut.data.toList) 106)
    rw [World.size_alloc] at this
    exact setAt_cells this
  have t1 := trimR_any (fun x => cut.data.toList.contains x) l (w.heap.size + 1) _ hT hm
  have hd2 : (dropEnd (fun x => cut.data.toList.contains x) l).length ≤ 9223372036854775807 := by
    unfold dropEnd
    rw [List.length_reverse]
    have := (List.dropWhile_suffix (fun x => cut.data.toList.contains x) (l := l.reverse)).length_le
    rw [List.length_reverse] at this
    omega
  have t2 := trimL_any (fun x => cut.data.toList.contains x) (dropEnd (fun x => cut.data.toList.contains x) l) (w.heap.size + 1) _ hT hd2
  rw [← hs] at t1
  obtain ⟨f, hf⟩ : ∃ f : UInt8 → Bool, f = fun x => cut.data.toList.contains x := ⟨_, rfl⟩
  rw [← hf] at t1 t2 ⊢
  have T1 := Aside0.mk t1
  have T2 := Aside0.mk t2
  rw [← hs]
  clear hs hsz hascii t1 t2 hT hd2 hf
  go_enter Tryd.func44, Tryd.ntmps44
  go_wp2_with (first
    | (go_at_call 78; refine (HM.out _).mono ?_; rintro e w1 ⟨rfl, hw1⟩)
    | (go_at_call 80; (with_reducible refine T1.out.mono ?_); rintro e w2 ⟨rfl, rfl⟩)
    | (go_at_call 79; (with_reducible refine T2.out.mono ?_); rintro e w3 ⟨rfl, rfl⟩))
  go_ret
  exact ⟨rfl, below_alloc' (below_alloc' (Below.refl _ _) _) _⟩
end Go.Proofs.YtgabpbnndikheaaDoor

set_option linter.constructorNameAsVariable false
/-! The reference's names: the predicate of runes, the plain law of trimming. -/
namespace Go.Proofs.YtgabpbnndikheaaDoor
open Go.RowKit Go.Proofs.YtgabpbnndikheaaDoorW.PrintWords

def runeOk (n : Nat) : Bool := (decide (97 ≤ n) && decide (n ≤ 122)) || (decide (48 ≤ n) && decide (n ≤ 57)) || (n == 95)
theorem runeOk_cases (n : Nat) : (runeOk n = true ∧ (97 ≤ n ∧ n ≤ 122 ∨ (n < 97 ∧ 48 ≤ n ∧ n ≤ 57) ∨ n = 95)) ∨ (runeOk n = false ∧ (n < 48 ∨ (n < 97 ∧ 57 < n ∧ n ≠ 95) ∨ 122 < n)) := by
  unfold runeOk
  by_cases h1 : 97 ≤ n ∧ n ≤ 122
  · left; simp [h1.1, h1.2]
  by_cases h2 : 48 ≤ n ∧ n ≤ 57
  · left; simp [h2.1, h2.2]; omega
  by_cases h3 : n = 95
  · left; subst h3; simp
  · right; simp; omega
set_option maxHeartbeats 1000000 in
set_option maxRecDepth 100000 in
theorem runeBad_any (n : Nat) (w : World) (hn : n ≤ 1114111) :
    Calls Tryd.prog 46 #[.int .i32 n] w fun e w' => e = .returned (.bool (!runeOk n)) ∧ w = w' := by
  rcases runeOk_cases n with ⟨h, hc⟩ | ⟨h, hc⟩
  · have hq : (decide ((97 : Int) ≤ (n : Int)) = true ∧ decide ((n : Int) ≤ 122) = true) ∨ (decide ((97 : Int) ≤ (n : Int)) = false ∧ decide ((48 : Int) ≤ (n : Int)) = true ∧ decide ((n : Int) ≤ 57) = true) ∨ (decide ((97 : Int) ≤ (n : Int)) = false ∧ decide ((48 : Int) ≤ (n : Int)) = true ∧ decide ((n : Int) ≤ 57) = false ∧ ((n : Int) == 95) = true) := by
      simp only [decide_eq_true_eq, decide_eq_false_iff_not, beq_iff_eq]
      omega
    rw [h]
    clear hc h
    rcases hq with ⟨h1, h2⟩ | ⟨h1, h2, h3⟩ | ⟨h1, h2, h3, h4⟩
    all_goals
      go_enter Tryd.func46, Tryd.ntmps46
      go_wp2
      go_ret
      exact ⟨rfl, rfl⟩
  · have hq : (decide ((97 : Int) ≤ (n : Int)) = false ∧ decide ((48 : Int) ≤ (n : Int)) = false ∧ ((n : Int) == 95) = false) ∨ (decide ((97 : Int) ≤ (n : Int)) = false ∧ decide ((48 : Int) ≤ (n : Int)) = true ∧ decide ((n : Int) ≤ 57) = false ∧ ((n : Int) == 95) = false) ∨ (decide ((97 : Int) ≤ (n : Int)) = true ∧ decide ((n : Int) ≤ 122) = false ∧ decide ((48 : Int) ≤ (n : Int)) = true ∧ decide ((n : Int) ≤ 57) = false ∧ ((n : Int) == 95) = false) := by
      simp only [decide_eq_true_eq, decide_eq_false_iff_not, beq_eq_false_iff_ne, ne_eq]
      omega
    rw [h]
    clear hc h
    rcases hq with ⟨h1, h2, h3⟩ | ⟨h1, h2, h3, h4⟩ | ⟨h1, h2, h3, h4, h5⟩
    all_goals
      go_enter Tryd.func46, Tryd.ntmps46
      go_wp2
      go_ret
      exact ⟨rfl, rfl⟩
theorem dw_nil {f : UInt8 → Bool} : ∀ {l : List UInt8}, l.dropWhile f = [] ↔ ∀ x ∈ l, f x = true
  | [] => by simp
  | a :: l => by
    rw [List.dropWhile_cons]
    by_cases h : f a = true
    · rw [if_pos h, dw_nil]
      simp [h]
    · rw [if_neg h]
      simp [h]
theorem dropEnd_nil {f : UInt8 → Bool} {l : List UInt8} : dropEnd f l = [] ↔ l.all f = true := by
  unfold dropEnd
  rw [List.reverse_eq_nil_iff, List.all_eq_true]
  constructor
  · intro h x hx
    have := dw_nil.1 h x (List.mem_reverse.2 hx)
    exact this
  · intro h
    exact dw_nil.2 fun x hx => h x (List.mem_reverse.1 hx)
theorem trimB_nil {f : UInt8 → Bool} {l : List UInt8} : trimB f l = [] ↔ l.all f = true := by
  unfold trimB
  constructor
  · intro h
    have h1 := dw_nil.1 h
    rcases List.eq_nil_or_concat (dropEnd f l) with he | ⟨m, x, he⟩
    · exact dropEnd_nil.1 he
    · exfalso
      have hx : f x = true := h1 x (by rw [he]; simp)
      have hr : dropEnd f l = (l.reverse.dropWhile f).reverse := rfl
      rw [he, List.concat_eq_append] at hr
      have h2 := congrArg List.reverse hr
      rw [List.reverse_append, List.reverse_reverse] at h2
      simp only [List.reverse_cons, List.reverse_nil, List.nil_append, List.singleton_append] at h2
      have h3 := List.head?_dropWhile_not f l.reverse
      rw [← h2] at h3
      simp at h3
      rw [h3] at hx
      cases hx
  · intro h
    rw [dropEnd_nil.2 h]
    rfl
end Go.Proofs.YtgabpbnndikheaaDoor

set_option linter.constructorNameAsVariable false
/-! The reference's names. -/
namespace Go.Proofs.YtgabpbnndikheaaDoor
open Go.RowKit Go.Proofs.YtgabpbnndikheaaDoorW.PrintWords

def letters : ByteArray := ⟨#[97, 98, 99, 100, 101, 102, 103, 104, 105, 106, 107, 108, 109, 110, 111, 112, 113, 114, 115, 116, 117, 118, 119, 120, 121, 122]⟩
def signs : ByteArray := ⟨#[97, 98, 99, 100, 101, 102, 103, 104, 105, 106, 107, 108, 109, 110, 111, 112, 113, 114, 115, 116, 117, 118, 119, 120, 121, 122, 48, 49, 50, 51, 52, 53, 54, 55, 56, 57, 95]⟩
def letterB (y : UInt8) : Bool := decide (97 ≤ y.toNat) && decide (y.toNat ≤ 122)
def signB (y : UInt8) : Bool := runeOk y.toNat
set_option maxRecDepth 100000 in
theorem letters_eq : (fun x => letters.data.toList.contains x) = letterB := by
  funext y
  have h := (by decide : ∀ n : Fin 256, (letters.data.toList.contains (UInt8.ofNat n.val)) = letterB (UInt8.ofNat n.val)) ⟨y.toNat, y.toNat_lt⟩
  rwa [UInt8.ofNat_toNat] at h
set_option maxRecDepth 100000 in
theorem signs_eq : (fun x => signs.data.toList.contains x) = signB := by
  funext y
  have h := (by decide : ∀ n : Fin 256, (signs.data.toList.contains (UInt8.ofNat n.val)) = signB (UInt8.ofNat n.val)) ⟨y.toNat, y.toNat_lt⟩
  rwa [UInt8.ofNat_toNat] at h
theorem ba_list (s : ByteArray) : (⟨s.data.toList.toArray⟩ : ByteArray) = s := by apply ByteArray.ext; simp
theorem isEmpty_of (l : List UInt8) : (⟨l.toArray⟩ : ByteArray).toList.isEmpty = l.isEmpty := by rw [ByteArray.toList_eq]
theorem trimB_empty (f : UInt8 → Bool) (l : List UInt8) : (trimB f l).isEmpty = l.all f := by
  rw [Bool.eq_iff_iff, List.isEmpty_iff]
  exact trimB_nil
theorem ascii_letters : ∀ (j : Nat) b, letters.data.toList[j]? = some b → b.toNat < 128 := by
  intro j b h
  have := (by decide : ∀ b ∈ letters.data.toList, b.toNat < 128) b (List.mem_of_getElem? h)
  exact this
theorem ascii_signs : ∀ (j : Nat) b, signs.data.toList[j]? = some b → b.toNat < 128 := by
  intro j b h
  have := (by decide : ∀ b ∈ signs.data.toList, b.toNat < 128) b (List.mem_of_getElem? h)
  exact this
theorem trimLetters_any (l : List UInt8) (w : World) (hl : l ≠ []) (hm : l.length ≤ 9223372036854775807) :
    Calls Tryd.prog 44 #[.string ⟨l.toArray⟩, .string ⟨#[97, 98, 99, 100, 101, 102, 103, 104, 105, 106, 107, 108, 109, 110, 111, 112, 113, 114, 115, 116, 117, 118, 119, 120, 121, 122]⟩] w fun e w' => e = .returned (.string ⟨(trimB letterB l).toArray⟩) ∧ Below w.heap.size w w' := by
  have := trim_any l letters w hl hm (by decide) (by decide) ascii_letters
  rw [letters_eq] at this
  exact this
theorem trimSigns_any (l : List UInt8) (w : World) (hl : l ≠ []) (hm : l.length ≤ 9223372036854775807) :
    Calls Tryd.prog 44 #[.string ⟨l.toArray⟩, .string ⟨#[97, 98, 99, 100, 101, 102, 103, 104, 105, 106, 107, 108, 109, 110, 111, 112, 113, 114, 115, 116, 117, 118, 119, 120, 121, 122, 48, 49, 50, 51, 52, 53, 54, 55, 56, 57, 95]⟩] w fun e w' => e = .returned (.string ⟨(trimB signB l).toArray⟩) ∧ Below w.heap.size w w' := by
  have := trim_any l signs w hl hm (by decide) (by decide) ascii_signs
  rw [signs_eq] at this
  exact this
theorem idxFunc_none (s : ByteArray) (h : s.data.toList.all signB = true) : Lib.idxFunc (fun n => !runeOk n) true s = -1 := by
  unfold Lib.idxFunc
  have key : ∀ f pos, Lib.idxFuncFrom (fun n => !runeOk n) true s f pos = -1 := by
    intro f
    induction f with
    | zero => intro pos; rfl
    | succ f ih =>
      intro pos
      unfold Lib.idxFuncFrom
      by_cases hp : pos < s.size
      · rw [if_pos hp]
        have hx : signB s[pos] = true := List.all_eq_true.1 h _ (by rw [← ba_get s pos hp]; exact List.getElem_mem _)
        have hlt : (s[pos]).toNat < 128 := by
          unfold signB at hx
          rcases runeOk_cases s[pos].toNat with ⟨_, hc⟩ | ⟨hb, _⟩
          · omega
          · rw [hb] at hx; cases hx
        rw [decode_ascii s pos hp hlt, if_neg]
        · exact ih _
        · unfold signB at hx
          simp [hx]
      · rw [if_neg hp]
  exact key _ _
theorem nameC_sign {z : Bool} {n : Nat} (h : nameC z n = true) : runeOk n = true := by
  unfold nameC at h
  unfold runeOk
  cases z
  · simp at h ⊢; omega
  · simp at h ⊢; omega
theorem sign_nameC {n : Nat} (h : runeOk n = true) : nameC true n = true := by
  unfold runeOk at h
  unfold nameC
  simp at h ⊢
  omega
theorem nameUpto_all {s : ByteArray} {n : Nat} (h : ∀ i, i < n → nameC (decide (0 < i)) (bt s i) = true) : nameUpto s n = true := by
  unfold nameUpto
  rw [List.all_eq_true]
  intro i hi
  exact h i (List.mem_range.1 hi)
theorem nameUpto_at {s : ByteArray} {n i : Nat} (h : nameUpto s n = true) (hi : i < n) : nameC (decide (0 < i)) (bt s i) = true := List.all_eq_true.1 h i (List.mem_range.2 hi)
theorem nameOk_law (s : ByteArray) (h0 : 0 < s.size) (h12 : s.size ≤ 12) : nameOk s = (letterB s[0] && s.data.toList.all signB) := by
  unfold nameOk
  rw [show decide (1 ≤ s.size) = true by simp; omega, show decide (s.size ≤ 12) = true by simp; omega, Bool.and_self, Bool.and_true]
  have hb0 : bt s 0 = s[0].toNat := bt_get h0
  rw [Bool.eq_iff_iff, Bool.and_eq_true]
  constructor
  · intro h
    constructor
    · have := nameUpto_at h h0
      rw [hb0] at this
      unfold nameC at this
      unfold letterB
      simpa using this
    · rw [List.all_eq_true]
      intro x hx
      obtain ⟨i, hi, rfl⟩ := List.getElem_of_mem hx
      have hi' : i < s.size := by simpa using hi
      have := nameUpto_at h hi'
      rw [bt_get hi'] at this
      exact nameC_sign this
  · intro ⟨h1, h2⟩
    refine nameUpto_all fun i hi => ?_
    rw [bt_get hi]
    by_cases hz : i = 0
    · subst hz
      unfold letterB at h1
      unfold nameC
      rw [h1, Bool.true_or]
    · have hx : signB s[i] = true := List.all_eq_true.1 h2 _ (by rw [← ba_get s i hi]; exact List.getElem_mem _)
      rw [show decide (0 < i) = true by simp; omega]
      exact sign_nameC hx
set_option maxHeartbeats 2000000 in
set_option maxRecDepth 100000 in
theorem rname_any (s : ByteArray) (w : World) (hm : s.size ≤ 9223372036854775807) :
    Calls Tryd.prog 15 #[.string s] w fun e w' => e = .returned (.bool (nameOk s)) ∧ Below w.heap.size w w' := by
  by_cases h0 : s.size = 0
  · have he : s = ⟨#[]⟩ := by apply ByteArray.ext; apply Array.eq_empty_of_size_eq_zero; exact h0
    subst he
    have hn : nameOk ⟨#[]⟩ = false := by rfl
    rw [hn]
    clear hn h0 hm
    go_enter Tryd.func15, Tryd.ntmps15
    go_wp2
    go_ret
    exact ⟨rfl, Below.refl _ _⟩
  have hs1 : s.toList ≠ [] := by
    rw [ByteArray.toList_eq]
    intro e
    have : s.data.toList.length = 0 := by rw [e]; rfl
    rw [Array.length_toList] at this
    exact h0 this
  have hs2 : s.toList.isEmpty = false := by simpa using hs1
  by_cases h12 : 12 < s.size
  · have hn : nameOk s = false := by unfold nameOk; rw [show decide (s.size ≤ 12) = false by simp; omega, Bool.and_false, Bool.and_false]
    have d12 : decide ((12 : Int) < (s.size : Int)) = true := by simp; omega
    rw [hn]
    go_enter Tryd.func15, Tryd.ntmps15
    go_wp2
    go_ret
    exact ⟨rfl, Below.refl _ _⟩
  have d12 : decide ((12 : Int) < (s.size : Int)) = false := by simp; omega
  have hlaw := nameOk_law s (by omega) (by omega)
  obtain ⟨R, hR⟩ : ∃ R, R = nameOk s := ⟨_, rfl⟩
  rw [← hR]
  rw [hlaw] at hR
  have HD := Aside0.mk hR
  clear hR hlaw
  have hex : s.extract 0 1 = ⟨[s[0]].toArray⟩ := by
    apply ByteArray.ext
    rw [ByteArray.data_extract]
    apply Array.toList_inj.1
    rw [Array.toList_extract]
    have hl : s.data.toList = s[0] :: s.data.toList.tail := by
      have := List.drop_eq_getElem_cons (l := s.data.toList) (i := 0) (by simp; exact Nat.pos_of_ne_zero h0)
      rw [List.drop_zero] at this
      rw [this, ba_get s 0 (by omega)]
      rfl
    rw [hl]
    simp [List.extract_eq_take_drop]
  have hle : (1 : Nat) ≤ s.size := by omega
  have t1 := fun W => trimLetters_any [s[0]] W (by simp) (by simp)
  have t2 := fun W => trimSigns_any s.data.toList W (by rw [← ByteArray.toList_eq]; exact hs1) (by simpa using hm)
  rw [← hex] at t1
  rw [ba_list] at t2
  have i1 := isEmpty_of (trimB letterB [s[0]])
  have i2 := isEmpty_of (trimB signB s.data.toList)
  rw [trimB_empty] at i1 i2
  simp only [List.all_cons, List.all_nil, Bool.and_true] at i1
  have hidx := idxFunc_none s
  generalize (⟨(trimB letterB [s[0]]).toArray⟩ : ByteArray) = r1 at *
  generalize (⟨(trimB signB s.data.toList).toArray⟩ : ByteArray) = r2 at *
  generalize letterB s[0] = b1 at *
  generalize s.data.toList.all signB = b2 at *
  have T1 := Aside0.mk t1
  have T2 := Aside0.mk t2
  clear t1 t2 hex
  cases b1
  · have j1 : ¬ r1.toList = [] := by intro e; rw [e] at i1; cases i1
    go_enter Tryd.func15, Tryd.ntmps15
    go_wp2_with (go_at_call 44; (with_reducible refine (T1.out _).mono ?_); rintro e w1 ⟨rfl, hB⟩; have HB1 := Aside0.mk hB; clear hB)
    go_ret
    exact ⟨bool_ret (by rw [HD.out]; rfl), HB1.out⟩
  · have j1 : r1.toList = [] := by simpa using i1
    cases b2
    · have j2 : ¬ r2.toList = [] := by intro e; rw [e] at i2; cases i2
      go_enter Tryd.func15, Tryd.ntmps15
      go_wp2_with (first
        | (go_at_call 44; (with_reducible refine (T1.out _).mono ?_); rintro e w1 ⟨rfl, hB⟩; have HB1 := Aside0.mk hB; clear hB)
        | (go_at_call 44; (with_reducible refine (T2.out _).mono ?_); rintro e w2 ⟨rfl, hB⟩; have HB2 := Aside0.mk (below_call HB1.out hB); clear hB))
      go_ret
      exact ⟨bool_ret (by rw [HD.out]; rfl), HB2.out⟩
    · have j2 : r2.toList = [] := by simpa using i2
      have C := Aside0.mk (fun W => Tryd.strings_ContainsFunc_grows 46 #[] (fun _ _ => by go_simp) (fun n => !runeOk n) s W (fun W' x hx hb => (runeBad_any x W' hx).mono fun e w' ⟨he, hw⟩ => ⟨he, hw ▸ Below.refl _ _⟩))
      rw [hidx rfl] at C
      go_enter Tryd.func15, Tryd.ntmps15
      go_wp2_with (first
        | (go_at_call 44; (with_reducible refine (T1.out _).mono ?_); rintro e w1 ⟨rfl, hB⟩; have HB1 := Aside0.mk hB; clear hB)
        | (go_at_call 44; (with_reducible refine (T2.out _).mono ?_); rintro e w2 ⟨rfl, hB⟩; have HB2 := Aside0.mk (below_call HB1.out hB); clear hB)
        | (go_at_call 45; refine (C.out _).mono ?_; rintro e w3 ⟨rfl, hB⟩; have HB3 := Aside0.mk (below_call HB2.out hB); clear hB))
      go_ret
      exact ⟨bool_ret (by rw [HD.out]; rfl), HB3.out⟩
end Go.Proofs.YtgabpbnndikheaaDoor

