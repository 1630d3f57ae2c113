/- The chances, said twice: the plain law. -/
import Derived.Test.YtmcfapchpedbgaaSB2
set_option linter.unusedSimpArgs false
set_option linter.unusedVariables false
namespace Go.Abs
open Go

theorem law09_wide_L0_eq (t : List (List Int)) : ∀ k i : Nat, i + k = t.length → ∃ s, law09_wide_L0 t k i = some s
  | 0, i, h => ⟨_, rfl⟩
  | k + 1, i, h => by
    have hi : i < t.length := by omega
    rw [law09_wide_L0.eq_2, gi_cast hi, add1_cast (i := i)]
    simp only [Option.bind_some]
    split
    · exact ⟨_, rfl⟩
    · exact law09_wide_L0_eq t k (i + 1) (by omega)
theorem law09_wide_eq (t : List (List Int)) : ∃ b, law09_wide t = some b := by
  obtain ⟨s, hs⟩ := law09_wide_L0_eq t t.length 0 (by omega)
  simp only [Int.natCast_zero] at hs
  unfold law09_wide
  rw [toNat_sub_zero, hs]
  rcases s with b | u
  · exact ⟨_, rfl⟩
  · exact ⟨_, rfl⟩
theorem law09_heavy_eq (t : List (List Int)) (n : Int) : ∃ b, law09_heavy t n = some b := by
  unfold law09_heavy
  split <;> exact ⟨_, rfl⟩

def chancesR (t : List (List Int)) (kind n : Int) : List Int × Int :=
  if tableR t then (if within kind 0 ((t.length : Int) - 1) then (if within n 1 5 then (chR (t.getD kind.toNat []) n, 0) else ([], 2)) else ([], 2)) else ([], 8)
theorem sort_Chances_eq (t : List (List Int)) (kind n : Int) : sort_Chances t kind n = some (chancesR t kind n) := by
  unfold sort_Chances chancesR
  rw [sort_CheckTable_eq]
  by_cases h : tableR t = true
  · obtain ⟨t1, t2, t3⟩ := tableR_spec h
    rw [w64_id (x := (t.length : Int) - 1) (by omega) (by omega)]
    simp only [sort_from_eq, List.all_cons, List.all_nil, Bool.and_true, Option.bind_some, h, if_true]
    by_cases h1 : within kind 0 ((t.length : Int) - 1) = true
    · by_cases h2 : within n 1 5 = true
      · have k1 := within_spec.1 h1
        have k2 := within_spec.1 h2
        have hk : kind.toNat < t.length := by omega
        obtain ⟨r1, r2, r3⟩ := rowR_spec (t3 _ (List.getElem_mem hk))
        rw [gi_some k1.1 (by omega)]
        have := sort_chances_eq (t[kind.toNat]) (by omega) n (by omega) (by omega)
        simp only [Option.bind_some, this, h1, h2, if_true]
        simp [List.getD_eq_getElem?_getD, List.getElem?_eq_getElem hk]
      · simp [h1, h2]
    · simp [h1]
  · simp [h]
theorem ref09_Chances_eq (t : List (List Int)) (kind n : Int) : ref09_Chances t kind n = some (chancesR t kind n) := by
  unfold ref09_Chances chancesR
  rw [ref09_Table_eq]
  by_cases h : tableR t = true
  · obtain ⟨t1, t2, t3⟩ := tableR_spec h
    rw [w64_id (x := (t.length : Int) - 1) (by omega) (by omega)]
    simp only [ref09_within_eq, Option.bind_some, h, if_true]
    by_cases h1 : within kind 0 ((t.length : Int) - 1) = true
    · by_cases h2 : within n 1 5 = true
      · have k1 := within_spec.1 h1
        have k2 := within_spec.1 h2
        have hk : kind.toNat < t.length := by omega
        have := ref09_Counted_eq t h kind n k1.1 (by omega) (by omega) (by omega)
        simp only [Option.bind_some, this, h1, h2, if_true]
        simp [List.getD_eq_getElem?_getD, List.getElem?_eq_getElem hk]
      · simp [h1, h2]
    · simp [h1]
  · simp [h]

/-! the wrong parts -/
def okBins (bins : List Int) : Prop := ∀ x ∈ bins, -1 ≤ x ∧ x ≤ 7
theorem Wrong_inner (l : List (List Int)) (counts bins r : List Int) (k : Nat) (hc : counts.length = l.length) (hb : bins.length = l.length) (hr : r.length = l.length + 1) (hok : okBins bins) (hk : k < l.length) :
    ∀ (m j : Nat) (out : List Mix), j + m = l.length → out.length = 8 → ∃ out', sort_Wrong_L1 counts bins k (r.take l.length) m out j = some out' ∧ ref09_Wrong_L2 l counts bins k r m out j = some out' ∧ out'.length = 8
  | 0, j, out, hj, ho => ⟨out, rfl, rfl, ho⟩
  | m + 1, j, out, hj, ho => by
    have hjb : j < bins.length := by omega
    have hjr : j < r.length := by omega
    have hjt : j < (r.take l.length).length := by simp; omega
    have hbj := hok bins[j] (List.getElem_mem hjb)
    rw [sort_Wrong_L1.eq_2, ref09_Wrong_L2.eq_2, gi_cast hjt, gi_cast hjb, gi_cast hjr, gi_cast (l := counts) (i := k) (by omega), gi_cast (l := bins) (i := k) (by omega), add1_cast (i := j)]
    simp only [Option.bind_some, List.getElem_take, decide_eq_true_eq]
    by_cases h0 : bins[j] < 0
    · simp only [h0, if_true]
      exact Wrong_inner l counts bins r k hc hb hr hok hk m (j + 1) out (by omega) ho
    · have hb8 : bins[j].toNat < 8 := by omega
      rw [gi_some (l := out) (by omega) (by omega)]
      simp only [h0, if_false, Option.bind_some]
      by_cases h1 : (bins[k] != bins[j]) = true
      · rw [if_pos h1, if_pos h1, gi_some (by omega) (by simp; omega)]
        simp only [Option.bind_some, List.set_set, List.getElem_set_self]
        exact Wrong_inner l counts bins r k hc hb hr hok hk m (j + 1) _ (by omega) (by simpa using ho)
      · rw [if_neg h1, if_neg h1]
        exact Wrong_inner l counts bins r k hc hb hr hok hk m (j + 1) _ (by omega) (by simpa using ho)
theorem addR_row_len (row : List Int) (n : Int) : (chR row n).length = row.length := by simp [chR, addR_len]
theorem Wrong_outer (l : List (List Int)) (hl : tableR l = true) (n : Int) (h1 : 1 ≤ n) (h5 : n ≤ 5) (counts bins : List Int) (hc : counts.length = l.length) (hb : bins.length = l.length) (hok : okBins bins) :
    ∀ (m k : Nat) (out : List Mix), k + m = l.length → out.length = 8 → ∃ out', sort_Wrong_L0 l n counts bins m out k = some out' ∧ ref09_Wrong_L1 l n counts bins m out k = some out' ∧ out'.length = 8
  | 0, k, out, hk, ho => ⟨out, rfl, rfl, ho⟩
  | m + 1, k, out, hk, ho => by
    have hkl : k < l.length := by omega
    obtain ⟨t1, t2, t3⟩ := tableR_spec hl
    obtain ⟨r1, r2, r3⟩ := rowR_spec (t3 _ (List.getElem_mem hkl))
    have hlen : (chR l[k] n).length = l.length + 1 := by rw [addR_row_len]; exact r1
    rw [sort_Wrong_L0.eq_2, ref09_Wrong_L1.eq_2, gi_cast hkl, add1_cast (i := k)]
    simp only [Option.bind_some]
    rw [sort_chances_eq _ (by omega) n h1 h5, ref09_Counted_eq l hl k n (by omega) (by omega) h1 h5]
    simp only [Option.bind_some, Int.toNat_natCast]
    have hs : gsl (chR l[k] n) 0 (l.length : Int) = some ((chR l[k] n).take l.length) := by
      unfold gsl
      rw [if_pos (by omega)]
      simp
    rw [hs]
    simp only [Option.bind_some]
    obtain ⟨out', q1, q2, q3⟩ := Wrong_inner l counts bins (chR l[k] n) k hc hb hlen hok hkl l.length 0 out (by omega) ho
    simp only [Int.natCast_zero] at q1 q2
    rw [toNat_sub_zero, toNat_sub_zero, show ((chR l[k] n).take l.length).length = l.length by simp; omega, q1, q2]
    simp only [Option.bind_some, un1]
    exact Wrong_outer l hl n h1 h5 counts bins hc hb hok m (k + 1) out' (by omega) q3
theorem Wrong_checks (l : List (List Int)) (counts bins : List Int) (hc : counts.length = l.length) (hb : bins.length = l.length) :
    ∀ (m k : Nat), k + m = l.length → ref09_Wrong_L0 l counts bins m k = some (if ((counts.drop k).all fun n => within n 0 1000) && ((bins.drop k).all fun n => within n (-1) 7) then .inr () else .inl ([], 2))
  | 0, k, hk => by rw [ref09_Wrong_L0.eq_1, List.drop_eq_nil_of_le (by omega), List.drop_eq_nil_of_le (by omega)]; rfl
  | m + 1, k, hk => by
    have h1 : k < counts.length := by omega
    have h2 : k < bins.length := by omega
    rw [ref09_Wrong_L0.eq_2, gi_cast h1, gi_cast h2, List.drop_eq_getElem_cons h1, List.drop_eq_getElem_cons h2, add1_cast (i := k), Wrong_checks l counts bins hc hb m (k + 1) (by omega)]
    simp only [Option.bind_some, ref09_within_eq, List.all_cons]
    by_cases g1 : within counts[k] 0 1000 = true <;> by_cases g2 : within bins[k] (-1) 7 = true <;> simp [g1, g2]
theorem Wrong_both (l : List (List Int)) (n : Int) (counts bins : List Int) : ∃ out e, sort_Wrong l n counts bins = some (out, e) ∧ ref09_Wrong l n counts bins = some (out, e) := by
  unfold sort_Wrong ref09_Wrong
  rw [sort_CheckTable_eq, ref09_Table_eq]
  by_cases h : tableR l = true
  · simp only [sort_from_eq, ref09_within_eq, List.all_cons, List.all_nil, Bool.and_true, Option.bind_some, h, if_true]
    by_cases h2 : within n 1 5 = true
    · by_cases hc : counts.length = l.length
      · by_cases hb : bins.length = l.length
        · have hw := Wrong_checks l counts bins hc hb l.length 0 (by omega)
          simp only [List.drop_zero, Int.natCast_zero] at hw
          rw [toNat_sub_zero, hw]
          have hc' : ((counts.length : Int) != (l.length : Int)) = false := by simp; omega
          have hb' : ((bins.length : Int) != (l.length : Int)) = false := by simp; omega
          by_cases g1 : (counts.all fun n => within n 0 1000) = true
          · by_cases g2 : (bins.all fun n => within n (-1) 7) = true
            · have hok : okBins bins := fun x hx => within_spec.1 (List.all_eq_true.1 g2 x hx)
              have k2 := within_spec.1 h2
              obtain ⟨out, q1, q2, q3⟩ := Wrong_outer l h n k2.1 k2.2 counts bins hc hb hok l.length 0 (List.replicate 8 (Mix.mk 0 0)) (by omega) (by simp)
              simp only [Int.natCast_zero] at q1 q2
              have gm : gmk 8 (Mix.mk 0 0) = some (List.replicate 8 (Mix.mk 0 0)) := rfl
              refine ⟨out, 0, ?_, ?_⟩
              · simp only [h2, hc', hb', g1, g2, gm, Option.bind_some, q1, un1, Bool.not_true, Bool.false_eq_true, if_false, bne_self_eq_false]
              · simp only [h2, hc', hb', g1, g2, gm, Option.bind_some, q2, un1, un0, sumE, Bool.not_true, Bool.false_eq_true, if_false, if_true, Bool.and_self]
            · refine ⟨[], 2, ?_, ?_⟩
              · simp [h2, hc', hb', g1, g2]
              · rw [Bool.eq_false_iff.2 g2]; simp [h2, hc', hb', g1, sumE]
          · refine ⟨[], 2, ?_, ?_⟩
            · rw [Bool.eq_false_iff.2 g1]; simp [h2, hc', hb']
            · rw [Bool.eq_false_iff.2 g1]; simp [h2, hc', hb', sumE]
        · have hb' : ((bins.length : Int) != (l.length : Int)) = true := by simp; omega
          have hc' : ((counts.length : Int) != (l.length : Int)) = false := by simp; omega
          exact ⟨[], 2, by simp [h2, hc', hb'], by simp [h2, hc', hb']⟩
      · have hc' : ((counts.length : Int) != (l.length : Int)) = true := by simp; omega
        exact ⟨[], 2, by simp [h2, hc'], by simp [h2, hc']⟩
    · exact ⟨[], 2, by simp [h2], by simp [h2]⟩
  · exact ⟨[], 8, by simp [h], by simp [h]⟩

theorem same_mix (l : List Mix) : ∀ m k : Nat, k + m = l.length → law09_SortChances_L0 l l m k = some (.inr ())
  | 0, k, h => rfl
  | m + 1, k, h => by
    rw [law09_SortChances_L0.eq_2, gi_cast (l := l) (i := k) (by omega), add1_cast (i := k)]
    simp only [Option.bind_some, beq_self_eq_true, Bool.and_self, Bool.not_true, Bool.false_eq_true, if_false]
    exact same_mix l m (k + 1) (by omega)
theorem same_ints_L0 (l : List Int) : ∀ m k : Nat, k + m = l.length → ref09_SameInts_L0 l l m k = some (.inr ())
  | 0, k, h => rfl
  | m + 1, k, h => by
    rw [ref09_SameInts_L0.eq_2, gi_cast (l := l) (i := k) (by omega), add1_cast (i := k)]
    simp only [Option.bind_some, bne_self_eq_false, Bool.false_eq_true, if_false]
    exact same_ints_L0 l m (k + 1) (by omega)
theorem same_ints (l : List Int) : ref09_SameInts l l = some true := by
  unfold ref09_SameInts
  have := same_ints_L0 l l.length 0 (by omega)
  simp only [Int.natCast_zero] at this
  rw [toNat_sub_zero, this]
  simp [sumE, un0]
theorem law09_SortChances_eq (t : List (List Int)) (kind n : Int) (counts bins : List Int) : law09_SortChances t kind n counts bins = some true := by
  unfold law09_SortChances
  obtain ⟨b1, w1⟩ := law09_wide_eq t
  obtain ⟨b2, w2⟩ := law09_heavy_eq t n
  obtain ⟨out, e, q1, q2⟩ := Wrong_both t n counts bins
  have q3 := same_mix out out.length 0 (by omega)
  simp only [Int.natCast_zero] at q3
  rw [w1, w2, q1, q2, sort_Chances_eq, ref09_Chances_eq, sort_CheckTable_eq, ref09_CheckTable_eq]
  simp only [Option.bind_some, un2]
  split
  · rfl
  split
  · rfl
  split
  · rfl
  split
  · rfl
  rw [toNat_sub_zero, q3]
  simp [sumE, un0, same_ints]
end Go.Abs
