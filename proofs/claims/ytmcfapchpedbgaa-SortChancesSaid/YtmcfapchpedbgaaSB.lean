import Derived.Test.YtmcfapchpedbgaaSD
import Derived.Test.YtmcfapchpedbgaaZP1
set_option linter.unusedSimpArgs false
set_option linter.unusedVariables false
namespace Go.Abs
open Go

def within (n lo hi : Int) : Bool := decide (lo ≤ n) && decide (n ≤ hi)
@[simp] theorem ref09_within_eq (n lo hi : Int) : ref09_within n lo hi = some (within n lo hi) := by
  unfold ref09_within within; by_cases h : lo ≤ n <;> simp [h]
@[simp] theorem sort_from_c1_eq (n lo hi : Int) : sort_from_c1 n lo hi = some (!within n lo hi) := by
  unfold sort_from_c1 within
  by_cases h : n < lo
  · simp [h]
  · by_cases h2 : hi < n
    · simp [h, h2]
    · have h3 : n ≤ hi := by omega
      have h4 : lo ≤ n := by omega
      simp [h, h3, h4, show ¬ hi < n from h2]

/-- the index of the first element -/
def idxF {α : Type} (p : α → Bool) : List α → Int → Int
  | [], _ => -1
  | x :: r, i => if p x then i else idxF p r (i + 1)
theorem idxF_any {α : Type} (p : α → Bool) : ∀ (l : List α) (i : Int), 0 ≤ i → decide (0 ≤ idxF p l i) = l.any p
  | [], i, _ => by simp [idxF]
  | x :: r, i, h => by
    simp only [idxF, List.any_cons]
    by_cases hx : p x = true
    · simp [hx, h]
    · simp [hx, idxF_any p r (i + 1) (by omega)]
theorem IndexFunc_L0 (p : Int → Bool) (l : List Int) : ∀ k i : Nat, i + k = l.length → slices_IndexFunc_int_int_L0 (fun x => some (p x)) l k i = some (if 0 ≤ idxF p (l.drop i) i then .inl (idxF p (l.drop i) i) else .inr ())
  | 0, i, h => by rw [slices_IndexFunc_int_int_L0.eq_1, List.drop_eq_nil_of_le (by omega)]; simp [idxF]
  | k + 1, i, h => by
    have hi : i < l.length := by omega
    rw [slices_IndexFunc_int_int_L0.eq_2, gi_cast hi, List.drop_eq_getElem_cons hi, add1_cast, IndexFunc_L0 p l k (i + 1) (by omega)]
    simp only [Option.bind_some, idxF]
    by_cases hp : p l[i] = true <;> simp [hp]
theorem idxF_lo {α : Type} (p : α → Bool) : ∀ (l : List α) (i : Int), 0 ≤ i → 0 ≤ idxF p l i ∨ idxF p l i = -1
  | [], i, _ => .inr rfl
  | x :: r, i, h => by
    simp only [idxF]
    split
    · exact .inl h
    · exact idxF_lo p r (i + 1) (by omega)
theorem IndexFunc_eq (p : Int → Bool) (l : List Int) : slices_IndexFunc_int_int l (fun x => some (p x)) = some (idxF p l 0) := by
  unfold slices_IndexFunc_int_int
  have := IndexFunc_L0 p l l.length 0 (by omega)
  simp only [List.drop_zero, Int.natCast_zero] at this
  rw [toNat_sub_zero, this]
  rcases idxF_lo p l 0 (by omega) with h | h
  · simp [h]
  · simp [h]
@[simp] theorem sort_from_eq (lo hi : Int) (l : List Int) : sort_from lo hi l = some (l.all fun n => within n lo hi) := by
  unfold sort_from slices_ContainsFunc_int_int
  simp only [sort_from_c1_eq]
  rw [IndexFunc_eq]
  simp [idxF_any, List.all_eq_not_any_not]

def saidR (l : List Int) : Bool := within l.length 1 9 && l.all fun n => within n (-1) 15
@[simp] theorem sort_said_eq (l : List Int) : sort_said l = some (saidR l) := by
  unfold sort_said saidR
  by_cases h : within l.length 1 9 = true <;> simp [h]
theorem Said_L0 (l : List Int) : ∀ k i : Nat, i + k = l.length → ref09_Said_L0 l k i = some (if (l.drop i).all fun n => within n (-1) 15 then .inr () else .inl false)
  | 0, i, h => by rw [ref09_Said_L0.eq_1, List.drop_eq_nil_of_le (by omega)]; simp
  | k + 1, i, h => by
    have hi : i < l.length := by omega
    rw [ref09_Said_L0.eq_2, gi_cast hi, List.drop_eq_getElem_cons hi, add1_cast, Said_L0 l k (i + 1) (by omega)]
    simp only [Option.bind_some, ref09_within_eq, List.all_cons]
    by_cases hp : within l[i] (-1) 15 = true <;> simp [hp]
@[simp] theorem ref09_Said_eq (l : List Int) : ref09_Said l = some (saidR l) := by
  unfold ref09_Said saidR
  have := Said_L0 l l.length 0 (by omega)
  simp only [List.drop_zero, Int.natCast_zero] at this
  simp only [ref09_within_eq, Option.bind_some, toNat_sub_zero, this]
  by_cases h : within l.length 1 9 = true
  · by_cases h2 : (l.all fun n => within n (-1) 15) = true <;> simp [h, h2]
  · simp [h]

/-- how many of a list are such a number -/
def votesF (k : Int) (l : List Int) : Int := (l.countP fun x => x == k : Nat)
theorem votesF_snoc (k x : Int) (l : List Int) : votesF k (l ++ [x]) = votesF k l + if x = k then 1 else 0 := by
  unfold votesF; rw [List.countP_append]; by_cases h : x = k <;> simp [h]
theorem votesF_le (k : Int) (l : List Int) : 0 ≤ votesF k l ∧ votesF k l ≤ l.length := by
  unfold votesF; have := List.countP_le_length (p := fun x => x == k) (l := l); omega
theorem votes_L0 (l : List Int) (kind : Int) (hl : (l.length : Int) ≤ 1000) : ∀ k i : Nat, i + k = l.length → ref09_votes_L0 l kind k (votesF kind (l.take i)) i = some (votesF kind l)
  | 0, i, h => by rw [ref09_votes_L0.eq_1, List.take_of_length_le (by omega)]
  | k + 1, i, h => by
    have hi : i < l.length := by omega
    have hv := votesF_le kind (l.take i)
    have hs := votesF_snoc kind l[i] (l.take i)
    rw [List.take_append_getElem hi] at hs
    simp only [List.length_take] at hv
    rw [ref09_votes_L0.eq_2, gi_cast hi, add1_cast, w64_id (by omega) (by omega)]
    simp only [Option.bind_some]
    by_cases hk : l[i] = kind
    · simp only [hk, beq_self_eq_true, if_true]
      rw [← votes_L0 l kind hl k (i + 1) (by omega), hs, hk]; simp
    · rw [if_neg (by simpa using hk), ← votes_L0 l kind hl k (i + 1) (by omega), hs]; simp [hk]
theorem ref09_votes_eq (l : List Int) (kind : Int) (hl : (l.length : Int) ≤ 1000) : ref09_votes l kind = some (votesF kind l) := by
  unfold ref09_votes
  have := votes_L0 l kind hl l.length 0 (by omega)
  simp only [List.take_zero, Int.natCast_zero] at this
  rw [toNat_sub_zero]
  rw [show votesF kind [] = 0 from rfl] at this
  rw [this]; rfl

/-- the scan over the kinds: the best, and its votes; -1 if two are equal -/
def scanF (v : Int → Int) : Nat → Int → Int → Int → Int × Int
  | 0, _, b, m => (b, m)
  | k + 1, x, b, m => if m < v x then scanF v k (x + 1) x (v x) else if v x = m then scanF v k (x + 1) (-1) m else scanF v k (x + 1) b m
def seenR (l : List Int) : Int := (scanF (fun k => votesF k l) 16 0 (-1) 0).1
theorem scan0 (v : Int → Int) (hv : ∀ k, 0 ≤ v k) : ∀ k x b m, 0 ≤ m → (m = 0 → b = -1) → ((scanF v k x b m).2 = 0 → (scanF v k x b m).1 = -1)
  | 0, x, b, m, _, h => h
  | k + 1, x, b, m, hm, h => by
    simp only [scanF]
    split
    · exact scan0 v hv k _ _ _ (hv x) (fun e => by omega)
    · split
      · exact scan0 v hv k _ _ _ hm (fun _ => rfl)
      · exact scan0 v hv k _ _ _ hm h
theorem Seen_L0 (l : List Int) (hl : (l.length : Int) ≤ 1000) : ∀ k x b m e, ∃ b' m' e', ref09_Seen_L0 l k b m e x = some (b', m', e') ∧ scanF (fun k => votesF k l) k x (if e then -1 else b) m = (if e' then -1 else b', m')
  | 0, x, b, m, e => ⟨b, m, e, by rw [ref09_Seen_L0.eq_1], rfl⟩
  | k + 1, x, b, m, e => by
    rw [ref09_Seen_L0.eq_2, ref09_votes_eq l x hl]
    simp only [Option.bind_some, scanF, decide_eq_true_eq, beq_iff_eq]
    by_cases h1 : m < votesF x l
    · simp only [h1, if_true]; exact Seen_L0 l hl k (x + 1) x (votesF x l) false
    · by_cases h2 : votesF x l = m
      · rw [if_neg h1, if_pos h2, if_neg h1, if_pos h2]; exact Seen_L0 l hl k (x + 1) b m true
      · rw [if_neg h1, if_neg h2, if_neg h1, if_neg h2]; exact Seen_L0 l hl k (x + 1) b m e
theorem ref09_Seen_eq (l : List Int) (hl : (l.length : Int) ≤ 1000) : ref09_Seen l = some (seenR l) := by
  unfold ref09_Seen seenR
  obtain ⟨b, m, e, h1, h2⟩ := Seen_L0 l hl 16 0 (-1) 0 false
  simp only [Bool.false_eq_true, if_false] at h2
  have h3 := scan0 (fun k => votesF k l) (fun k => (votesF_le k l).1) 16 0 (-1) 0 (by omega) (fun _ => rfl)
  rw [h2] at h3
  rw [show Int.toNat (16 - 0) = 16 from rfl, h1, h2]
  simp only [Option.bind_some, un3]
  simp only at h3
  by_cases hm : m = 0
  · rw [h3 hm]; simp [hm]
  · cases e <;> simp [hm]

/-- the votes of all kinds -/
def tally (v : Int → Int) : List Int := (List.range 16).map fun (k : Nat) => v (k : Int)
theorem gi_tally (v : Int → Int) {x : Int} (h0 : 0 ≤ x) (h1 : x ≤ 15) : gi (tally v) x = some (v x) := by
  unfold gi tally
  rw [if_pos h0, List.getElem?_map, List.getElem?_range (by omega)]
  simp [Int.toNat_of_nonneg h0]
theorem set_tally (v : Int → Int) {x : Int} (h0 : 0 ≤ x) (h1 : x ≤ 15) (c : Int) : (tally v).set x.toNat c = tally fun k => if k = x then c else v k := by
  apply List.ext_getElem?
  intro j
  unfold tally
  rw [List.getElem?_set]
  by_cases hj : x.toNat = j
  · subst hj
    simp [List.getElem?_range, show x.toNat < 16 by omega, Int.toNat_of_nonneg h0]
  · rw [if_neg hj]
    by_cases hj2 : j < 16
    · simp only [List.getElem?_map, List.getElem?_range hj2, Option.map_some]
      rw [if_neg (by omega)]
    · simp [show ¬ j < 16 from hj2]
theorem read_L0 (l : List Int) (hl : (l.length : Int) ≤ 1000) (hx : ∀ x ∈ l, x ≤ 15) : ∀ k i : Nat, i + k = l.length → sort_read_L0 l k (tally fun x => votesF x (l.take i)) i = some (tally fun x => votesF x l)
  | 0, i, h => by rw [sort_read_L0.eq_1, List.take_of_length_le (by omega)]
  | k + 1, i, h => by
    have hi : i < l.length := by omega
    have hs := fun x => votesF_snoc x l[i] (l.take i)
    simp only [List.take_append_getElem hi] at hs
    have hl15 := hx l[i] (List.getElem_mem hi)
    rw [sort_read_L0.eq_2, gi_cast hi, add1_cast]
    simp only [Option.bind_some, decide_eq_true_eq]
    have ih := read_L0 l hl hx k (i + 1) (by omega)
    by_cases h0 : 0 ≤ l[i]
    · have hv := votesF_le l[i] (l.take i)
      simp only [List.length_take] at hv
      rw [if_pos h0, gi_tally _ h0 hl15]
      simp only [Option.bind_some]
      rw [w64_id (by omega) (by omega), set_tally _ h0 hl15, ← ih]
      congr 2
      funext x
      rw [hs]
      by_cases hxx : x = l[i]
      · simp [hxx]
      · simp [hxx, show ¬ l[i] = x from fun e => hxx e.symm]
    · rw [if_neg h0, ← ih]
      congr 1
      unfold tally
      apply List.map_congr_left
      intro j _
      show votesF _ _ = votesF _ _
      rw [hs, if_neg (by omega)]; simp
theorem read_L1 (v : Int → Int) : ∀ (k : Nat) (x b m : Int), 0 ≤ x → x + k = 16 → sort_read_L1 (tally v) k b m x = some (scanF v k x b m).1
  | 0, x, b, m, _, _ => by rw [sort_read_L1.eq_1]; rfl
  | k + 1, x, b, m, h0, h => by
    rw [sort_read_L1.eq_2, gi_tally v h0 (by omega)]
    simp only [Option.bind_some, scanF, decide_eq_true_eq, beq_iff_eq]
    split
    · exact read_L1 v k _ _ _ (by omega) (by omega)
    · split
      · exact read_L1 v k _ _ _ (by omega) (by omega)
      · exact read_L1 v k _ _ _ (by omega) (by omega)
theorem sort_read_eq (l : List Int) (hl : (l.length : Int) ≤ 1000) (hx : ∀ x ∈ l, x ≤ 15) : sort_read l = some (seenR l) := by
  unfold sort_read seenR
  have := read_L0 l hl hx l.length 0 (by omega)
  simp only [List.take_zero, Int.natCast_zero] at this
  rw [toNat_sub_zero]
  rw [show (tally fun x => votesF x []) = List.replicate 16 0 from rfl] at this
  rw [this]
  simp only [Option.bind_some, un1]
  rw [show Int.toNat (16 - 0) = 16 from rfl, read_L1 _ 16 0 (-1) 0 (by omega) (by omega)]
  rfl
theorem saidR_spec {l : List Int} (h : saidR l = true) : (l.length : Int) ≤ 9 ∧ 0 < l.length ∧ ∀ x ∈ l, -1 ≤ x ∧ x ≤ 15 := by
  simp only [saidR, within, Bool.and_eq_true, decide_eq_true_eq, List.all_eq_true] at h
  exact ⟨by omega, by omega, fun x hx => h.2 x hx⟩
theorem sort_Read_eq (l : List Int) : sort_Read l = some (if saidR l then (seenR l, 0) else (0, 2)) := by
  unfold sort_Read
  by_cases h : saidR l = true
  · have := saidR_spec h
    simp [h, sort_read_eq l (by omega) fun x hx => (this.2.2 x hx).2]
  · simp [h]
theorem ref09_Read_eq (l : List Int) : ref09_Read l = some (if saidR l then (seenR l, 0) else (0, 2)) := by
  unfold ref09_Read
  by_cases h : saidR l = true
  · have := saidR_spec h
    simp [h, ref09_Seen_eq l (by omega)]
  · simp [h]

/-! fed parts -/
def fedF : List Fed → Int → Bool
  | [], _ => true
  | x :: r, m => within x.Tick m 1000 && within x.Kind 0 15 && saidR x.Readings && fedF r (x.Tick + 1)
def fedR (l : List Fed) : Bool := decide ((l.length : Int) ≤ 40) && fedF l 0
theorem CheckFed_L0 (l : List Fed) : ∀ (k i : Nat) (m : Int), 0 ≤ m → i + k = l.length → sort_CheckFed_L0 l k m i = some (if fedF (l.drop i) m then .inr () else .inl 91)
  | 0, i, m, hm, h => by rw [sort_CheckFed_L0.eq_1, List.drop_eq_nil_of_le (by omega)]; simp [fedF]
  | k + 1, i, m, hm, h => by
    have hi : i < l.length := by omega
    rw [sort_CheckFed_L0.eq_2, gi_cast hi, List.drop_eq_getElem_cons hi, add1_cast]
    simp only [Option.bind_some, sort_from_eq, sort_said_eq, List.all_cons, List.all_nil, Bool.and_true, fedF]
    by_cases h1 : within l[i].Tick m 1000 = true
    · have hw : m ≤ l[i].Tick ∧ l[i].Tick ≤ 1000 := by simpa [within] using h1
      rw [w64_id (by omega) (by omega), CheckFed_L0 l k (i + 1) _ (by omega) (by omega)]
      by_cases h2 : within l[i].Kind 0 15 = true
      · by_cases h3 : saidR l[i].Readings = true <;> simp [h1, h2, h3]
      · simp [h1, h2]
    · simp [h1]
theorem sort_CheckFed_eq (l : List Fed) : sort_CheckFed l = some (if fedR l then 0 else 91) := by
  unfold sort_CheckFed fedR
  have := CheckFed_L0 l l.length 0 0 (by omega) (by omega)
  simp only [List.drop_zero, Int.natCast_zero] at this
  rw [toNat_sub_zero, this]
  by_cases h : (l.length : Int) ≤ 40
  · have h' : ¬ (40 : Int) < l.length := by omega
    by_cases h2 : fedF l 0 = true <;> simp [h, h', h2]
  · have h' : (40 : Int) < l.length := by omega
    simp [h, h']
theorem Parts_L0 (l : List Fed) (hl : (l.length : Int) ≤ 40) : ∀ (k i : Nat) (m : Int), 0 ≤ m → (i = 0 → m = 0) → (∀ h : 0 < i, (h' : i - 1 < l.length) → m = l[i - 1].Tick + 1) → i + k = l.length → ref09_Parts_L0 l k i = some (if fedF (l.drop i) m then .inr () else .inl false)
  | 0, i, m, hm, h0, h1, h => by rw [ref09_Parts_L0.eq_1, List.drop_eq_nil_of_le (by omega)]; simp [fedF]
  | k + 1, i, m, hm, h0, h1, h => by
    have hi : i < l.length := by omega
    have ih : 0 ≤ l[i].Tick → _ := fun ht => Parts_L0 l hl k (i + 1) (l[i].Tick + 1) (by omega) (by omega) (fun _ _ => rfl) (by omega)
    rw [ref09_Parts_L0.eq_2, gi_cast hi, List.drop_eq_getElem_cons hi, add1_cast]
    simp only [Option.bind_some, ref09_within_eq, ref09_Said_eq, fedF, decide_eq_true_eq]
    rcases Nat.eq_zero_or_pos i with hz | hz
    · have hm0 := h0 hz
      subst hm0
      have hz' : ¬ (0 : Int) < i := by omega
      simp only [hz', if_false]
      by_cases h1 : within l[i].Tick 0 1000 = true
      · rw [ih (by have : 0 ≤ l[i].Tick ∧ l[i].Tick ≤ 1000 := by simpa [within] using h1
                   omega)]
        by_cases h2 : within l[i].Kind 0 15 = true
        · by_cases h3 : saidR l[i].Readings = true <;> simp [h1, h2, h3]
        · simp [h1, h2]
      · simp [h1]
    · have hm1 := h1 hz (by omega)
      have hz' : (0 : Int) < i := by omega
      have hg : gi l (w64 ((i : Int) - 1)) = some l[i - 1] := by rw [sub1_cast hz (by omega), gi_cast (by omega)]
      simp only [hz', if_true, hg, Option.bind_some]
      by_cases h1 : within l[i].Tick 0 1000 = true
      · have hw : 0 ≤ l[i].Tick ∧ l[i].Tick ≤ 1000 := by simpa [within] using h1
        by_cases h4 : l[i].Tick ≤ l[i - 1].Tick
        · have h5 : within l[i].Tick m 1000 = false := by simp [within]; omega
          simp [h1, h4, h5]
        · have h5 : within l[i].Tick m 1000 = true := by simp [within]; omega
          rw [ih (by omega)]
          by_cases h2 : within l[i].Kind 0 15 = true
          · by_cases h3 : saidR l[i].Readings = true <;> simp [h1, h2, h3, h4, h5]
          · simp [h1, h2, h4, h5]
      · have h5 : within l[i].Tick m 1000 = false := by
          simp [within] at h1 ⊢; intro hh; exact h1 (by omega)
        simp [h1, h5]
theorem ref09_Parts_eq (l : List Fed) : ref09_Parts l = some (fedR l) := by
  unfold ref09_Parts fedR
  by_cases h : (l.length : Int) ≤ 40
  · have h' : ¬ (40 : Int) < l.length := by omega
    have := Parts_L0 l h l.length 0 0 (by omega) (fun _ => rfl) (fun h => by omega) (by omega)
    simp only [List.drop_zero, Int.natCast_zero] at this
    rw [toNat_sub_zero, this]
    by_cases h2 : fedF l 0 = true <;> simp [h, h', h2]
  · have h' : (40 : Int) < l.length := by omega
    simp [h, h']
theorem ref09_CheckFed_eq (l : List Fed) : ref09_CheckFed l = some (if fedR l then 0 else 91) := by
  unfold ref09_CheckFed
  rw [ref09_Parts_eq]
  by_cases h : fedR l = true <;> simp [h]

/-! belts -/
def gatesF (hi : Int) : List Gate → Int → List Int → Bool
  | [], _, _ => true
  | g :: r, m, s => within g.At m hi && within g.Bin 0 7 && !s.contains g.Bin && gatesF hi r (g.At + 1) (g.Bin :: s)
def beltR (b : Belt) : Bool := within b.Length 2 100 && within b.Camera 0 (b.Length - 2) && within b.Slow 0 10 && decide ((b.Gates.length : Int) ≤ 8) && decide ((b.Bins.length : Int) = 16) && (b.Bins.all fun n => within n (-1) 7) && gatesF (b.Length - 1) b.Gates (b.Camera + 1) []
theorem mget_mput {κ β : Type} [DecidableEq κ] (l : List (κ × β)) (k k' : κ) (v : β) : mget (mput l k v) k' = if k' = k then some v else mget l k' := by
  induction l with
  | nil => simp [mput, mget]
  | cons p r ih =>
    simp only [mput]
    split
    · rename_i h; subst h; simp only [mget]; split <;> rfl
    · rename_i h
      simp only [mget, ih]
      by_cases h2 : k' = p.1
      · subst h2; rw [if_pos rfl, if_neg (fun e => h e.symm)]; simp
      · rw [if_neg h2]; simp [h2]
theorem CheckBelt_L0 (b : Belt) (hL : within b.Length 2 100 = true) : ∀ (k i : Nat) (m : Int) (bins : List (Int × Bool)) (s : List Int), 0 ≤ m → (∀ x, (mget bins x).getD false = s.contains x) → i + k = b.Gates.length → sort_CheckBelt_L0 b k m bins i = some (if gatesF (b.Length - 1) (b.Gates.drop i) m s then .inr () else .inl 90)
  | 0, i, m, bins, s, hm, hs, h => by rw [sort_CheckBelt_L0.eq_1, List.drop_eq_nil_of_le (by omega)]; simp [gatesF]
  | k + 1, i, m, bins, s, hm, hs, h => by
    have hi : i < b.Gates.length := by omega
    have hw0 : 2 ≤ b.Length ∧ b.Length ≤ 100 := by simpa [within] using hL
    rw [sort_CheckBelt_L0.eq_2, gi_cast hi, List.drop_eq_getElem_cons hi, add1_cast, w64_id (x := b.Length - 1) (by omega) (by omega)]
    simp only [Option.bind_some, sort_from_eq, List.all_cons, List.all_nil, Bool.and_true, gatesF, hs]
    by_cases h1 : within b.Gates[i].At m (b.Length - 1) = true
    · have hw : m ≤ b.Gates[i].At ∧ b.Gates[i].At ≤ b.Length - 1 := by simpa [within] using h1
      rw [w64_id (by omega) (by omega), CheckBelt_L0 b hL k (i + 1) _ _ (b.Gates[i].Bin :: s) (by omega) (fun x => by
        rw [mget_mput, List.contains_cons]
        by_cases hx : x = b.Gates[i].Bin
        · simp [hx]
        · simp only [if_neg hx, hs, show (x == b.Gates[i].Bin) = false by simpa using hx, Bool.false_or]) (by omega)]
      by_cases h2 : within b.Gates[i].Bin 0 7 = true
      · by_cases h3 : s.contains b.Gates[i].Bin = true
        · simp only [h1, h2, h3, Bool.not_true, Bool.not_false, Bool.and_true, Bool.true_and, Bool.false_and, Bool.and_false, Bool.false_eq_true, if_true, if_false, reduceIte, Bool.or_false, Bool.false_or, Bool.true_or, Bool.or_true]
        · simp only [h1, h2, Bool.eq_false_iff.2 h3, Bool.not_true, Bool.not_false, Bool.and_true, Bool.true_and, Bool.false_and, Bool.and_false, Bool.false_eq_true, if_true, if_false, reduceIte, Bool.or_false, Bool.false_or, Bool.true_or, Bool.or_true]
      · simp only [h1, Bool.eq_false_iff.2 h2, Bool.not_true, Bool.not_false, Bool.and_true, Bool.true_and, Bool.false_and, Bool.and_false, Bool.false_eq_true, if_true, if_false, reduceIte, Bool.or_false, Bool.false_or, Bool.true_or, Bool.or_true]
    · simp only [Bool.eq_false_iff.2 h1, Bool.not_true, Bool.not_false, Bool.and_true, Bool.true_and, Bool.false_and, Bool.and_false, Bool.false_eq_true, if_true, if_false, reduceIte, Bool.or_false, Bool.false_or, Bool.true_or, Bool.or_true]
theorem sort_CheckBelt_eq (b : Belt) : sort_CheckBelt b = some (if beltR b then 0 else 90) := by
  unfold sort_CheckBelt beltR
  simp only [sort_from_eq, List.all_cons, List.all_nil, Bool.and_true, Option.bind_some]
  by_cases h1 : within b.Length 2 100 = true
  · have hw : 2 ≤ b.Length ∧ b.Length ≤ 100 := by simpa [within] using h1
    rw [w64_id (x := b.Length - 2) (by omega) (by omega)]
    by_cases h2 : within b.Camera 0 (b.Length - 2) = true
    · have hw2 : 0 ≤ b.Camera ∧ b.Camera ≤ b.Length - 2 := by simpa [within] using h2
      have := CheckBelt_L0 b h1 b.Gates.length 0 (b.Camera + 1) [] [] (by omega) (fun x => rfl) (by omega)
      simp only [List.drop_zero, Int.natCast_zero] at this
      rw [w64_id (x := b.Camera + 1) (by omega) (by omega), toNat_sub_zero, this]
      by_cases h3 : within b.Slow 0 10 = true
      · by_cases h4 : (b.Gates.length : Int) ≤ 8
        · have h4' : ¬ (8 : Int) < b.Gates.length := by omega
          by_cases h5 : (b.Bins.length : Int) = 16
          · by_cases h6 : (b.Bins.all fun n => within n (-1) 7) = true
            · by_cases h7 : gatesF (b.Length - 1) b.Gates (b.Camera + 1) [] = true <;> simp [h1, h2, h3, h4, h4', h5, h6, h7]
            · simp [h1, h2, h3, h4, h4', h5, h6]
          · simp [h1, h2, h3, h4, h4', h5]
        · have h4' : (8 : Int) < b.Gates.length := by omega
          simp [h1, h2, h3, h4, h4']
      · simp [h1, h2, h3]
    · simp [h1, h2]
  · simp [h1]
theorem Leads_L0 (b : Belt) (bin : Int) : ∀ k i : Nat, i + k = b.Gates.length → ref09_Leads_L0 b bin k i = some (if 0 ≤ idxF (fun g => g.Bin == bin) (b.Gates.drop i) i then .inl (idxF (fun g => g.Bin == bin) (b.Gates.drop i) i) else .inr ())
  | 0, i, h => by rw [ref09_Leads_L0.eq_1, List.drop_eq_nil_of_le (by omega)]; simp [idxF]
  | k + 1, i, h => by
    have hi : i < b.Gates.length := by omega
    rw [ref09_Leads_L0.eq_2, gi_cast hi, List.drop_eq_getElem_cons hi, add1_cast, Leads_L0 b bin k (i + 1) (by omega)]
    simp only [Option.bind_some]
    by_cases hp : (b.Gates[i].Bin == bin) = true
    · simp [idxF, hp]
    · have e : idxF (fun g : Gate => g.Bin == bin) (b.Gates[i] :: List.drop (i + 1) b.Gates) i = idxF (fun g : Gate => g.Bin == bin) (List.drop (i + 1) b.Gates) ((i + 1 : Nat) : Int) := by
        show (if (b.Gates[i].Bin == bin) = true then _ else _) = _
        rw [if_neg hp]; rfl
      rw [e, if_neg hp]
def leadsR (b : Belt) (bin : Int) : Int := idxF (fun g => g.Bin == bin) b.Gates 0
@[simp] theorem ref09_Leads_eq (b : Belt) (bin : Int) : ref09_Leads b bin = some (leadsR b bin) := by
  unfold ref09_Leads leadsR
  have := Leads_L0 b bin b.Gates.length 0 (by omega)
  simp only [List.drop_zero, Int.natCast_zero] at this
  rw [toNat_sub_zero, this]
  rcases idxF_lo (fun g => g.Bin == bin) b.Gates 0 (by omega) with h | h
  · simp [h]
  · simp [h]
theorem idxF_ge {α : Type} (p : α → Bool) : ∀ (l : List α) (j : Int), 0 ≤ j → idxF p l j = -1 ∨ j ≤ idxF p l j
  | [], j, _ => .inl rfl
  | x :: r, j, h => by
    simp only [idxF]
    split
    · exact .inr (Int.le_refl _)
    · rcases idxF_ge p r (j + 1) (by omega) with h | h
      · exact .inl h
      · exact .inr (by omega)
theorem idxF_first {α : Type} (p : α → Bool) : ∀ (l : List α) (i : Nat) (j : Int), 0 ≤ j → (h : i < l.length) → p l[i] = true → (idxF p l j = j + i ↔ (l.take i).any p = false)
  | [], i, j, _, h, _ => by simp at h
  | x :: r, 0, j, hj, h, hp => by simp at hp; simp [idxF, hp]
  | x :: r, i + 1, j, hj, h, hp => by
    simp only [idxF, List.take_succ_cons, List.any_cons]
    by_cases hx : p x = true
    · simp only [hx, if_true, Bool.true_or]; constructor
      · intro e; omega
      · intro e; cases e
    · have ih := idxF_first p r i (j + 1) (by omega) (by simpa using h) (by simpa using hp)
      rw [if_neg hx, Bool.eq_false_iff.2 hx, Bool.false_or, ← ih]
      constructor <;> intro e <;> rw [e] <;> omega
theorem Belt_L0 (b : Belt) (hL : within b.Length 2 100 = true) (hC : within b.Camera 0 (b.Length - 2) = true) (hl : (b.Gates.length : Int) ≤ 8) : ∀ (k i : Nat) (m : Int), b.Camera + 1 ≤ m → (i = 0 → m = b.Camera + 1) → (∀ h : 0 < i, (h' : i - 1 < b.Gates.length) → m = b.Gates[i - 1].At + 1) → i + k = b.Gates.length →
    ref09_Belt_L0 b k i = some (if gatesF (b.Length - 1) (b.Gates.drop i) m ((b.Gates.take i).map (·.Bin)).reverse then .inr () else .inl false)
  | 0, i, m, hm, h0, h1, h => by rw [ref09_Belt_L0.eq_1, List.drop_eq_nil_of_le (by omega)]; simp [gatesF]
  | k + 1, i, m, hm, h0, h1, h => by
    have hi : i < b.Gates.length := by omega
    have hw0 : 2 ≤ b.Length ∧ b.Length ≤ 100 := by simpa [within] using hL
    have hw1 : 0 ≤ b.Camera ∧ b.Camera ≤ b.Length - 2 := by simpa [within] using hC
    have ih : b.Camera + 1 ≤ b.Gates[i].At → _ := fun ht => Belt_L0 b hL hC hl k (i + 1) (b.Gates[i].At + 1) (by omega) (by omega) (fun _ _ => rfl) (by omega)
    have htk : ((b.Gates.take (i + 1)).map (·.Bin)).reverse = b.Gates[i].Bin :: ((b.Gates.take i).map (·.Bin)).reverse := by
      rw [← List.take_append_getElem hi, List.map_append, List.reverse_append]; rfl
    rw [htk] at ih
    have hlead : (leadsR b b.Gates[i].Bin != (i : Int)) = ((b.Gates.take i).map (·.Bin)).reverse.contains b.Gates[i].Bin := by
      have := idxF_first (fun g => g.Bin == b.Gates[i].Bin) b.Gates i 0 (by omega) hi (by simp)
      unfold leadsR
      rw [Int.zero_add] at this
      rw [Bool.eq_iff_iff, bne_iff_ne]
      rw [Ne, this]
      rw [Bool.not_eq_false, List.any_eq_true, List.contains_iff_mem, List.mem_reverse, List.mem_map]
      simp only [beq_iff_eq]
    rw [ref09_Belt_L0.eq_2, gi_cast hi, List.drop_eq_getElem_cons hi, add1_cast, w64_id (x := b.Length - 1) (by omega) (by omega), w64_id (x := b.Camera + 1) (by omega) (by omega)]
    simp only [Option.bind_some, ref09_within_eq, ref09_Leads_eq, gatesF, decide_eq_true_eq, hlead]
    rcases Nat.eq_zero_or_pos i with hz | hz
    · have hm0 := h0 hz
      subst hm0
      have hz' : ¬ (0 : Int) < i := by omega
      simp only [hz', if_false]
      by_cases h1 : within b.Gates[i].At (b.Camera + 1) (b.Length - 1) = true
      · rw [ih (by have : b.Camera + 1 ≤ b.Gates[i].At ∧ b.Gates[i].At ≤ b.Length - 1 := by simpa [within] using h1
                   omega)]
        by_cases h2 : within b.Gates[i].Bin 0 7 = true
        · by_cases h3 : ((b.Gates.take i).map (·.Bin)).reverse.contains b.Gates[i].Bin = true
          · simp only [h1, h2, h3, Bool.not_true, Bool.not_false, Bool.and_true, Bool.true_and, Bool.false_and, Bool.and_false, Bool.false_eq_true, if_true, if_false, reduceIte, Bool.or_false, Bool.false_or, Bool.true_or, Bool.or_true]
          · simp only [h1, h2, Bool.eq_false_iff.2 h3, Bool.not_true, Bool.not_false, Bool.and_true, Bool.true_and, Bool.false_and, Bool.and_false, Bool.false_eq_true, if_true, if_false, reduceIte, Bool.or_false, Bool.false_or, Bool.true_or, Bool.or_true]
        · simp only [h1, Bool.eq_false_iff.2 h2, Bool.not_true, Bool.not_false, Bool.and_true, Bool.true_and, Bool.false_and, Bool.and_false, Bool.false_eq_true, if_true, if_false, reduceIte, Bool.or_false, Bool.false_or, Bool.true_or, Bool.or_true]
      · simp only [Bool.eq_false_iff.2 h1, Bool.not_true, Bool.not_false, Bool.and_true, Bool.true_and, Bool.false_and, Bool.and_false, Bool.false_eq_true, if_true, if_false, reduceIte, Bool.or_false, Bool.false_or, Bool.true_or, Bool.or_true]
    · have hm1 := h1 hz (by omega)
      have hz' : (0 : Int) < i := by omega
      have hg : gi b.Gates (w64 ((i : Int) - 1)) = some b.Gates[i - 1] := by rw [sub1_cast hz (by omega), gi_cast (by omega)]
      simp only [hz', if_true, hg, Option.bind_some]
      by_cases h1 : within b.Gates[i].At (b.Camera + 1) (b.Length - 1) = true
      · have hw : b.Camera + 1 ≤ b.Gates[i].At ∧ b.Gates[i].At ≤ b.Length - 1 := by simpa [within] using h1
        by_cases h4 : b.Gates[i].At ≤ b.Gates[i - 1].At
        · have h5 : within b.Gates[i].At m (b.Length - 1) = false := by simp [within]; omega
          simp only [h1, h4, h5, Bool.not_true, Bool.not_false, Bool.and_true, Bool.true_and, Bool.false_and, Bool.and_false, Bool.false_eq_true, if_true, if_false, reduceIte, Bool.or_false, Bool.false_or, Bool.true_or, Bool.or_true]
        · have h5 : within b.Gates[i].At m (b.Length - 1) = true := by simp [within]; omega
          rw [ih (by omega)]
          by_cases h2 : within b.Gates[i].Bin 0 7 = true
          · by_cases h3 : ((b.Gates.take i).map (·.Bin)).reverse.contains b.Gates[i].Bin = true
            · simp only [h1, h2, h3, h4, h5, Bool.not_true, Bool.not_false, Bool.and_true, Bool.true_and, Bool.false_and, Bool.and_false, Bool.false_eq_true, if_true, if_false, reduceIte, Bool.or_false, Bool.false_or, Bool.true_or, Bool.or_true]
            · simp only [h1, h2, Bool.eq_false_iff.2 h3, h4, h5, Bool.not_true, Bool.not_false, Bool.and_true, Bool.true_and, Bool.false_and, Bool.and_false, Bool.false_eq_true, if_true, if_false, reduceIte, Bool.or_false, Bool.false_or, Bool.true_or, Bool.or_true]
          · simp only [h1, Bool.eq_false_iff.2 h2, h4, h5, Bool.not_true, Bool.not_false, Bool.and_true, Bool.true_and, Bool.false_and, Bool.and_false, Bool.false_eq_true, if_true, if_false, reduceIte, Bool.or_false, Bool.false_or, Bool.true_or, Bool.or_true]
      · have h5 : within b.Gates[i].At m (b.Length - 1) = false := by
          simp [within] at h1 ⊢; intro hh; exact h1 (by omega)
        simp only [Bool.eq_false_iff.2 h1, h5, Bool.not_true, Bool.not_false, Bool.and_true, Bool.true_and, Bool.false_and, Bool.and_false, Bool.false_eq_true, if_true, if_false, reduceIte, Bool.or_false, Bool.false_or, Bool.true_or, Bool.or_true]
theorem Belt_L1 (b : Belt) (hl : b.Bins.length = 16) : ∀ k i : Nat, i + k = 16 → ref09_Belt_L1 b k i = some (if (b.Bins.drop i).all fun n => within n (-1) 7 then .inr () else .inl false)
  | 0, i, h => by rw [ref09_Belt_L1.eq_1, List.drop_eq_nil_of_le (by omega)]; simp
  | k + 1, i, h => by
    have hi : i < b.Bins.length := by omega
    rw [ref09_Belt_L1.eq_2, gi_cast hi, List.drop_eq_getElem_cons hi, add1_cast, Belt_L1 b hl k (i + 1) (by omega)]
    simp only [Option.bind_some, ref09_within_eq, List.all_cons]
    by_cases hp : within b.Bins[i] (-1) 7 = true <;> simp [hp]
theorem ref09_Belt_eq (b : Belt) : ref09_Belt b = some (beltR b) := by
  unfold ref09_Belt beltR
  simp only [ref09_within_eq, Option.bind_some]
  by_cases h1 : within b.Length 2 100 = true
  · have hw : 2 ≤ b.Length ∧ b.Length ≤ 100 := by simpa [within] using h1
    rw [w64_id (x := b.Length - 2) (by omega) (by omega)]
    by_cases h2 : within b.Camera 0 (b.Length - 2) = true
    · have hw2 : 0 ≤ b.Camera ∧ b.Camera ≤ b.Length - 2 := by simpa [within] using h2
      by_cases h3 : within b.Slow 0 10 = true
      · by_cases h4 : (b.Gates.length : Int) ≤ 8
        · have h4' : ¬ (8 : Int) < b.Gates.length := by omega
          by_cases h5 : (b.Bins.length : Int) = 16
          · have t1 := Belt_L0 b h1 h2 h4 b.Gates.length 0 (b.Camera + 1) (by omega) (fun _ => rfl) (fun h => by omega) (by omega)
            have t2 := Belt_L1 b (by omega) 16 0 (by omega)
            simp only [List.drop_zero, Int.natCast_zero, List.take_zero, List.map_nil, List.reverse_nil] at t1 t2
            rw [toNat_sub_zero, t1, show Int.toNat (16 - 0) = 16 from rfl, t2]
            by_cases h6 : (b.Bins.all fun n => within n (-1) 7) = true
            · by_cases h7 : gatesF (b.Length - 1) b.Gates (b.Camera + 1) [] = true <;> simp [h1, h2, h3, h4, h4', h5, h6, h7]
            · by_cases h7 : gatesF (b.Length - 1) b.Gates (b.Camera + 1) [] = true <;> simp [h1, h2, h3, h4, h4', h5, h6, h7]
          · simp [h1, h2, h3, h4, h4', h5]
        · have h4' : (8 : Int) < b.Gates.length := by omega
          simp [h1, h2, h3, h4, h4']
      · simp [h1, h2, h3]
    · simp [h1, h2]
  · simp [h1]
theorem ref09_CheckBelt_eq (b : Belt) : ref09_CheckBelt b = some (if beltR b then 0 else 90) := by
  unfold ref09_CheckBelt
  rw [ref09_Belt_eq]
  by_cases h : beltR b = true <;> simp [h]

def greatR (b : Belt) (l : List Fed) : Bool := decide ((12 : Int) < b.Gates.length) || decide ((30 : Int) < b.Bins.length) || decide ((60 : Int) < l.length) || l.any fun x => decide ((20 : Int) < x.Readings.length)
theorem Great_L0 (l : List Fed) : ∀ k i : Nat, i + k = l.length → ref09_Great_L0 l k i = some (if (l.drop i).any fun x => decide ((20 : Int) < x.Readings.length) then .inl true else .inr ())
  | 0, i, h => by rw [ref09_Great_L0.eq_1, List.drop_eq_nil_of_le (by omega)]; simp
  | k + 1, i, h => by
    have hi : i < l.length := by omega
    rw [ref09_Great_L0.eq_2, gi_cast hi, List.drop_eq_getElem_cons hi, add1_cast, Great_L0 l k (i + 1) (by omega)]
    simp only [Option.bind_some, List.any_cons]
    by_cases hp : (20 : Int) < l[i].Readings.length <;> simp [hp]
theorem ref09_Great_eq (b : Belt) (l : List Fed) : ref09_Great b l = some (greatR b l) := by
  unfold ref09_Great greatR
  have := Great_L0 l l.length 0 (by omega)
  simp only [List.drop_zero, Int.natCast_zero] at this
  rw [toNat_sub_zero, this]
  by_cases h1 : (12 : Int) < b.Gates.length
  · simp [h1]
  · by_cases h2 : (30 : Int) < b.Bins.length
    · simp [h1, h2]
    · by_cases h3 : (60 : Int) < l.length
      · simp [h1, h2, h3]
      · by_cases h4 : (l.any fun x => decide ((20 : Int) < x.Readings.length)) = true
        · rw [h4]; simp [h1, h2, h3]
        · rw [Bool.eq_false_iff.2 h4]; simp [h1, h2, h3]

theorem law09_SortChecks_eq (b : Belt) (l : List Fed) (r : List Int) : law09_SortChecks b l r = some true := by
  unfold law09_SortChecks
  simp only [ref09_Great_eq, sort_Read_eq, ref09_Read_eq, sort_CheckBelt_eq, ref09_CheckBelt_eq, sort_CheckFed_eq, ref09_CheckFed_eq, Option.bind_some, un2, beq_self_eq_true, if_true]
  split
  · rfl
  · split <;> rfl
end Go.Abs
