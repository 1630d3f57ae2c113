/- Tables and chances: the plain law. -/
import Derived.Test.YtmcfapchpedbgaaSB
set_option linter.unusedSimpArgs false
set_option linter.unusedVariables false
namespace Go.Abs
open Go

/-! tables -/
def rowR (k : Nat) (row : List Int) : Bool := decide (row.length = k + 1) && (row.all fun n => within n 0 1000) && decide (row.sum = 1000)
def tableR (l : List (List Int)) : Bool := within l.length 1 8 && l.all (rowR l.length)
theorem within_spec {n lo hi : Int} : within n lo hi = true ↔ lo ≤ n ∧ n ≤ hi := by simp [within]
theorem sum_le (l : List Int) (h : ∀ x ∈ l, 0 ≤ x ∧ x ≤ 1000) : 0 ≤ l.sum ∧ l.sum ≤ 1000 * l.length := by
  induction l with
  | nil => simp
  | cons x r ih =>
    have h1 := h x (by simp)
    have h2 := ih fun y hy => h y (by simp [hy])
    simp only [List.sum_cons, List.length_cons]
    omega
theorem CheckTable_L1 (r : List Int) (hl : r.length ≤ 9) (h : ∀ x ∈ r, 0 ≤ x ∧ x ≤ 1000) : ∀ k i : Nat, i + k = r.length → sort_CheckTable_L1 r k (r.take i).sum i = some r.sum
  | 0, i, hk => by rw [sort_CheckTable_L1.eq_1, List.take_of_length_le (by omega)]
  | k + 1, i, hk => by
    have hi : i < r.length := by omega
    have h1 := sum_le (r.take (i + 1)) fun x hx => h x (List.mem_of_mem_take hx)
    have hlt : (r.take (i + 1)).length ≤ 9 := by simp; omega
    have hs : (r.take (i + 1)).sum = (r.take i).sum + r[i] := by rw [← List.take_append_getElem hi, List.sum_append]; simp
    rw [sort_CheckTable_L1.eq_2, gi_cast hi, add1_cast (i := i)]
    simp only [Option.bind_some]
    rw [w64_id (by omega) (by omega), ← hs]
    exact CheckTable_L1 r hl h k (i + 1) (by omega)
theorem CheckTable_L0 (l : List (List Int)) (hl : l.length ≤ 8) : ∀ k i : Nat, i + k = l.length → sort_CheckTable_L0 l k i = some (if (l.drop i).all (rowR l.length) then .inr () else .inl 8)
  | 0, i, h => by rw [sort_CheckTable_L0.eq_1, List.drop_eq_nil_of_le (by omega)]; simp
  | k + 1, i, h => by
    have hi : i < l.length := by omega
    rw [sort_CheckTable_L0.eq_2, gi_cast hi, List.drop_eq_getElem_cons hi, add1_cast (i := i), CheckTable_L0 l hl k (i + 1) (by omega), w64_id (by omega) (by omega)]
    simp only [Option.bind_some, sort_from_eq, List.all_cons]
    by_cases h1 : l[i].length = l.length + 1
    · have h1' : ((l[i].length : Int) != (l.length : Int) + 1) = false := by simp; omega
      by_cases h2 : (l[i].all fun n => within n 0 1000) = true
      · have h3 := CheckTable_L1 l[i] (by omega) (fun x hx => within_spec.1 (List.all_eq_true.1 h2 x hx)) l[i].length 0 (by omega)
        simp only [List.take_zero, Int.natCast_zero, List.sum_nil] at h3
        rw [toNat_sub_zero, h3]
        by_cases h4 : l[i].sum = 1000
        · have hr : rowR l.length l[i] = true := by simp only [rowR, h1, h2, h4, decide_true, Bool.and_self]
          simp [h1', h2, h4, hr]
        · have hr : rowR l.length l[i] = false := by simp [rowR, h4]
          simp [h1', h2, h4, hr]
      · have hr : rowR l.length l[i] = false := by simp only [rowR, Bool.eq_false_iff.2 h2, Bool.and_false, Bool.false_and]
        rw [Bool.eq_false_iff.2 h2]
        simp [h1', hr]
    · have h1' : ((l[i].length : Int) != (l.length : Int) + 1) = true := by simp; omega
      have hr : rowR l.length l[i] = false := by simp [rowR, h1]
      simp [h1', hr]
theorem sort_CheckTable_eq (l : List (List Int)) : sort_CheckTable l = some (if tableR l then 0 else 8) := by
  unfold sort_CheckTable tableR
  simp only [sort_from_eq, List.all_cons, List.all_nil, Bool.and_true, Option.bind_some]
  by_cases h1 : within l.length 1 8 = true
  · have hw := within_spec.1 h1
    have := CheckTable_L0 l (by omega) l.length 0 (by omega)
    simp only [List.drop_zero, Int.natCast_zero] at this
    rw [toNat_sub_zero, this]
    by_cases h2 : l.all (rowR l.length) = true
    · simp [h1, h2]
    · rw [Bool.eq_false_iff.2 h2]; simp [h1]
  · simp [h1]
theorem Table_L1 (r : List Int) (hl : r.length ≤ 9) : ∀ k i : Nat, i + k = r.length → (∀ x ∈ r.take i, 0 ≤ x ∧ x ≤ 1000) → ref09_Table_L1 r k (r.take i).sum i = some (if (r.drop i).all (fun n => within n 0 1000) then .inr r.sum else .inl false)
  | 0, i, hk, h => by rw [ref09_Table_L1.eq_1, List.drop_eq_nil_of_le (by omega), List.take_of_length_le (by omega)]; simp
  | k + 1, i, hk, h => by
    have hi : i < r.length := by omega
    rw [ref09_Table_L1.eq_2, gi_cast hi, List.drop_eq_getElem_cons hi, add1_cast (i := i)]
    simp only [Option.bind_some, ref09_within_eq, List.all_cons]
    by_cases h1 : within r[i] 0 1000 = true
    · have h2 : ∀ x ∈ r.take (i + 1), 0 ≤ x ∧ x ≤ 1000 := by
        rw [← List.take_append_getElem hi]
        intro x hx
        rcases List.mem_append.1 hx with hx | hx
        · exact h x hx
        · simp at hx; subst hx; exact within_spec.1 h1
      have h3 := sum_le _ h2
      have hlt : (r.take (i + 1)).length ≤ 9 := by simp; omega
      have hs : (r.take (i + 1)).sum = (r.take i).sum + r[i] := by rw [← List.take_append_getElem hi, List.sum_append]; simp
      rw [w64_id (by omega) (by omega), ← hs, Table_L1 r hl k (i + 1) (by omega) h2]
      simp [h1]
    · simp [h1]
theorem Table_L0 (l : List (List Int)) (hl : l.length ≤ 8) : ∀ k i : Nat, i + k = l.length → ref09_Table_L0 l k i = some (if (l.drop i).all (rowR l.length) then .inr () else .inl false)
  | 0, i, h => by rw [ref09_Table_L0.eq_1, List.drop_eq_nil_of_le (by omega)]; simp
  | k + 1, i, h => by
    have hi : i < l.length := by omega
    rw [ref09_Table_L0.eq_2, gi_cast hi, List.drop_eq_getElem_cons hi, add1_cast (i := i), Table_L0 l hl k (i + 1) (by omega), w64_id (by omega) (by omega)]
    simp only [Option.bind_some, List.all_cons]
    by_cases h1 : l[i].length = l.length + 1
    · have h1' : ((l[i].length : Int) != (l.length : Int) + 1) = false := by simp; omega
      have h3 := Table_L1 l[i] (by omega) l[i].length 0 (by omega) (fun x hx => by simp at hx)
      simp only [List.take_zero, Int.natCast_zero, List.sum_nil, List.drop_zero] at h3
      rw [toNat_sub_zero, h3]
      by_cases h2 : (l[i].all fun n => within n 0 1000) = true
      · by_cases h4 : l[i].sum = 1000
        · have hr : rowR l.length l[i] = true := by simp only [rowR, h1, h2, h4, decide_true, Bool.and_self]
          simp [h1', h2, h4, hr]
        · have hr : rowR l.length l[i] = false := by simp [rowR, h4]
          simp [h1', h2, h4, hr]
      · have hr : rowR l.length l[i] = false := by simp only [rowR, Bool.eq_false_iff.2 h2, Bool.and_false, Bool.false_and]
        rw [Bool.eq_false_iff.2 h2]
        simp [h1', hr]
    · have h1' : ((l[i].length : Int) != (l.length : Int) + 1) = true := by simp; omega
      have hr : rowR l.length l[i] = false := by simp [rowR, h1]
      simp [h1', hr]
theorem ref09_Table_eq (l : List (List Int)) : ref09_Table l = some (tableR l) := by
  unfold ref09_Table tableR
  simp only [ref09_within_eq, Option.bind_some]
  by_cases h1 : within l.length 1 8 = true
  · have hw := within_spec.1 h1
    have := Table_L0 l (by omega) l.length 0 (by omega)
    simp only [List.drop_zero, Int.natCast_zero] at this
    rw [toNat_sub_zero, this]
    by_cases h2 : l.all (rowR l.length) = true
    · simp [h1, h2]
    · rw [Bool.eq_false_iff.2 h2]; simp [h1]
  · simp [h1]
theorem ref09_CheckTable_eq (l : List (List Int)) : ref09_CheckTable l = some (if tableR l then 0 else 8) := by
  unfold ref09_CheckTable
  rw [ref09_Table_eq]
  by_cases h : tableR l = true <;> simp [h]

/-! what is read is one of the readings -/
theorem scanF_mem (v : Int → Int) : ∀ (k : Nat) (x b m : Int), (scanF v k x b m).1 = b ∨ (scanF v k x b m).1 = -1 ∨ (∃ y, (scanF v k x b m).1 = y ∧ m < v y)
  | 0, x, b, m => .inl rfl
  | k + 1, x, b, m => by
    simp only [scanF]
    split
    · rename_i h
      rcases scanF_mem v k (x + 1) x (v x) with h1 | h1 | ⟨y, h1, h2⟩
      · exact .inr (.inr ⟨x, h1, h⟩)
      · exact .inr (.inl h1)
      · exact .inr (.inr ⟨y, h1, by omega⟩)
    · split
      · rcases scanF_mem v k (x + 1) (-1) m with h1 | h1 | ⟨y, h1, h2⟩
        · exact .inr (.inl h1)
        · exact .inr (.inl h1)
        · exact .inr (.inr ⟨y, h1, h2⟩)
      · exact scanF_mem v k (x + 1) b m
theorem seenR_mem (l : List Int) (h : 0 ≤ seenR l) : seenR l ∈ l := by
  unfold seenR at h ⊢
  rcases scanF_mem (fun k => votesF k l) 16 0 (-1) 0 with h1 | h1 | ⟨y, h1, h2⟩
  · omega
  · omega
  · rw [h1]
    simp only [votesF] at h2
    have : 0 < l.countP fun x => x == y := by omega
    obtain ⟨x, hx, e⟩ := List.countP_pos_iff.1 this
    simp at e; subst e; exact hx

/-! the chances: the same sums in the same order -/
def sayR (row : List Int) (j : Int) : Int := if j = (row.length : Int) - 1 then -1 else j
def leafR (row b : List Int) (w : Int) (out : List Int) : List Int :=
  let i : Int := if seenR b < 0 then (row.length : Int) - 1 else seenR b
  out.set i.toNat (w64 (out.getD i.toNat 0 + w))
def addR (row : List Int) : Nat → List Int → Int → List Int → List Int
  | 0, b, w, out => leafR row b w out
  | m + 1, b, w, out => (row.zipIdx).foldl (fun out x => if x.1 = 0 then out else addR row m (b ++ [sayR row x.2]) (w64 (w * x.1)) out) out
theorem leafR_len (row b : List Int) (w : Int) (out : List Int) : (leafR row b w out).length = out.length := by simp [leafR]
theorem addR_len (row : List Int) : ∀ (m : Nat) (b : List Int) (w : Int) (out : List Int), (addR row m b w out).length = out.length
  | 0, b, w, out => leafR_len row b w out
  | m + 1, b, w, out => by
    have : ∀ (l : List (Int × Nat)) (out : List Int), (l.foldl (fun out x => if x.1 = 0 then out else addR row m (b ++ [sayR row x.2]) (w64 (w * x.1)) out) out).length = out.length := by
      intro l
      induction l with
      | nil => intro out; rfl
      | cons x l ih =>
        intro out
        rw [List.foldl_cons, ih]
        split
        · rfl
        · exact addR_len row m _ _ _
    exact this _ _
/-- the readings are such -/
def begR (row b : List Int) : Prop := ∀ x ∈ b, -1 ≤ x ∧ x < (row.length : Int) - 1
theorem begR_snoc {row b : List Int} (h : begR row b) {j : Nat} (hj : j < row.length) : begR row (b ++ [sayR row j]) := by
  intro x hx
  rcases List.mem_append.1 hx with hx | hx
  · exact h x hx
  · simp at hx; subst hx
    unfold sayR
    split <;> omega

theorem fold_zip {β : Type} (f : β → Int × Nat → β) (row : List Int) (i : Nat) (hi : i < row.length) (out : β) : ((row.zipIdx).drop i).foldl f out = ((row.zipIdx).drop (i + 1)).foldl f (f out (row[i], i)) := by
  rw [List.drop_eq_getElem_cons (by simpa using hi), List.foldl_cons]
  simp
theorem leaf_gi {row b : List Int} (hb : begR row b) (hr : 0 < row.length) {out : List Int} (ho : out.length = row.length) : ∀ i : Int, i = (if seenR b < 0 then (row.length : Int) - 1 else seenR b) → gi out i = some (out.getD i.toNat 0) := by
  intro i hi
  have h1 : 0 ≤ i ∧ i < out.length := by
    split at hi
    · omega
    · rename_i h
      have := hb _ (seenR_mem b (by omega))
      omega
  rw [gi_some h1.1 h1.2]
  congr 1
  rw [List.getD_eq_getElem?_getD, List.getElem?_eq_getElem (by omega)]; rfl

/-- the program's way: the readings are written into one list -/
theorem fill_eq (row : List Int) (hrow : 2 ≤ row.length ∧ row.length ≤ 9) (n : Nat) (hn : n ≤ 5) : ∀ (m i : Nat) (fuel : Nat) (w : Int) (rs out : List Int), i + m = n → m < fuel → rs.length = n → out.length = row.length → begR row (rs.take i) →
    ∃ rs', sort_chances_c1_m fuel i w n rs n ((row.length : Int) - 1) out row.length row = some (rs', addR row m (rs.take i) w out) ∧ rs'.length = n ∧ rs'.take i = rs.take i
  | 0, i, 0, w, rs, out, hi, hf, _, _, _ => by omega
  | m + 1, i, 0, w, rs, out, hi, hf, _, _, _ => by omega
  | 0, i, fuel + 1, w, rs, out, hi, hf, hrs, ho, hb => by
    have hin : i = n := by omega
    have ht : rs.take i = rs := List.take_of_length_le (by omega)
    refine ⟨rs, ?_, hrs, rfl⟩
    rw [ht] at hb ⊢
    rw [sort_chances_c1_m.eq_2, sort_read_eq rs (by omega) fun x hx => by have := hb x hx; omega]
    have hl := leaf_gi hb (by omega) ho _ rfl
    simp only [hin, beq_self_eq_true, if_true, Option.bind_some, addR, leafR, decide_eq_true_eq]
    by_cases hs : seenR rs < 0
    · simp only [hs, if_true] at hl ⊢
      rw [hl]; rfl
    · simp only [hs, if_false] at hl ⊢
      rw [hl]; rfl
  | m + 1, i, fuel + 1, w, rs, out, hi, hf, hrs, ho, hb => by
    rw [sort_chances_c1_m.eq_2]
    have hne : ((i : Int) == (n : Int)) = false := by simp; omega
    simp only [hne, Bool.false_eq_true, if_false]
    have loop : ∀ (k j : Nat) (rs1 out1 : List Int), j + k = row.length → rs1.length = n → out1.length = row.length → rs1.take i = rs.take i →
        ∃ rs2, sort_chances_c1_m_L0 (sort_chances_c1_m fuel) i w n n ((row.length : Int) - 1) row.length row k rs1 out1 j = some (rs2, ((row.zipIdx).drop j).foldl (fun out x => if x.1 = 0 then out else addR row m (rs.take i ++ [sayR row x.2]) (w64 (w * x.1)) out) out1) ∧ rs2.length = n ∧ rs2.take i = rs.take i := by
      intro k
      induction k with
      | zero =>
        intro j rs1 out1 hj h1 h2 h3
        refine ⟨rs1, ?_, h1, h3⟩
        rw [sort_chances_c1_m_L0.eq_1, List.drop_eq_nil_of_le (by simp; omega)]; rfl
      | succ k ih =>
        intro j rs1 out1 hj h1 h2 h3
        have hjl : j < row.length := by omega
        rw [sort_chances_c1_m_L0.eq_2, gi_cast hjl, fold_zip _ row j hjl, add1_cast (i := j)]
        simp only [Option.bind_some, beq_iff_eq]
        by_cases h0 : row[j] = 0
        · simp only [h0, if_true]
          exact ih (j + 1) rs1 out1 (by omega) h1 h2 h3
        · simp only [h0, if_false]
          rw [gi_cast (l := rs1) (i := i) (by omega)]
          simp only [Option.bind_some, Int.toNat_natCast]
          have step : ∀ rs3 : List Int, rs3.length = n → rs3.take (i + 1) = rs.take i ++ [sayR row j] → ∃ rs2, ((sort_chances_c1_m fuel (w64 ((i : Int) + 1)) (w64 (w * row[j])) n rs3 n ((row.length : Int) - 1) out1 row.length row).bind fun r_ => un2 r_ fun c_646 c_647 => sort_chances_c1_m_L0 (sort_chances_c1_m fuel) i w n n ((row.length : Int) - 1) row.length row k c_646 c_647 ((j + 1 : Nat) : Int)) =
              some (rs2, ((row.zipIdx).drop (j + 1)).foldl (fun out x => if x.1 = 0 then out else addR row m (rs.take i ++ [sayR row x.2]) (w64 (w * x.1)) out) (addR row m (rs.take i ++ [sayR row j]) (w64 (w * row[j])) out1)) ∧ rs2.length = n ∧ rs2.take i = rs.take i := by
            intro rs3 g1 g2
            obtain ⟨rs4, f1, f2, f3⟩ := fill_eq row hrow n hn m (i + 1) fuel (w64 (w * row[j])) rs3 out1 (by omega) (by omega) g1 h2 (by rw [g2]; exact begR_snoc hb hjl)
            rw [w64_id (by omega) (by omega), show ((i : Int) + 1) = ((i + 1 : Nat) : Int) by omega, f1]
            simp only [Option.bind_some, un2]
            rw [g2]
            refine ih (j + 1) rs4 _ (by omega) f2 (by rw [addR_len]; exact h2) ?_
            have e1 : rs4.take i = (rs4.take (i + 1)).take i := by rw [List.take_take]; congr 1; omega
            have e2 : rs.take i = (rs3.take (i + 1)).take i := by rw [g2]; rw [List.take_append_of_le_length (by simp; omega), List.take_take]; congr 1; omega
            rw [e1, f3, ← e2]
          have tk : ∀ x : Int, (rs1.set i x).take (i + 1) = rs.take i ++ [x] := fun x => by
            rw [← h3]
            have hi' : i < (rs1.set i x).length := by simp; omega
            rw [← List.take_append_getElem hi']
            simp [List.take_set_of_le]
          by_cases hj2 : (j : Int) = (row.length : Int) - 1
          · rw [if_pos hj2, gi_cast (l := rs1.set i j) (i := i) (by simp; omega)]
            simp only [Option.bind_some]
            exact step ((rs1.set i j).set i (-1)) (by simpa using h1) (by rw [List.set_set, tk, sayR, if_pos hj2])
          · rw [if_neg hj2]
            exact step _ (by simpa using h1) (by rw [tk, sayR, if_neg hj2])
    obtain ⟨rs2, q1, q2, q3⟩ := loop row.length 0 rs out (by omega) hrs ho rfl
    refine ⟨rs2, ?_, q2, q3⟩
    simp only [List.drop_zero, Int.natCast_zero] at q1
    rw [toNat_sub_zero, q1]
    rfl

/-- the reference's way: the readings are made anew each time -/
theorem counted_eq (row : List Int) (hrow : 2 ≤ row.length ∧ row.length ≤ 9) (h0 : ∀ x ∈ row, 0 ≤ x) (n : Nat) (hn : n ≤ 5) : ∀ (m : Nat) (fuel : Nat) (w : Int) (b out : List Int), b.length + m = n → m < fuel → out.length = row.length → begR row b →
    ref09_counted_m1 fuel row b b.length n w out row.length = some (addR row m b w out)
  | 0, 0, w, b, out, hi, hf, _, _ => by omega
  | m + 1, 0, w, b, out, hi, hf, _, _ => by omega
  | 0, fuel + 1, w, b, out, hi, hf, ho, hb => by
    rw [ref09_counted_m1.eq_2, ref09_Seen_eq b (by omega), w64_id (x := (row.length : Int) - 1) (by omega) (by omega)]
    have hl := leaf_gi hb (by omega) ho _ rfl
    have hin : ((b.length : Int) == (n : Int)) = true := by simp; omega
    simp only [hin, if_true, Option.bind_some, addR, leafR, decide_eq_true_eq]
    by_cases hs : seenR b < 0
    · simp only [hs, if_true] at hl ⊢
      rw [hl]; rfl
    · simp only [hs, if_false] at hl ⊢
      rw [hl]; rfl
  | m + 1, fuel + 1, w, b, out, hi, hf, ho, hb => by
    rw [ref09_counted_m1.eq_2]
    have hne : ((b.length : Int) == (n : Int)) = false := by simp; omega
    simp only [hne, Bool.false_eq_true, if_false]
    have loop : ∀ (k j : Nat) (out1 : List Int), j + k = row.length → out1.length = row.length →
        ref09_counted_m1_L0 (ref09_counted_m1 fuel) row b n w row.length k out1 j = some (((row.zipIdx).drop j).foldl (fun out x => if x.1 = 0 then out else addR row m (b ++ [sayR row x.2]) (w64 (w * x.1)) out) out1) := by
      intro k
      induction k with
      | zero =>
        intro j out1 hj h2
        rw [ref09_counted_m1_L0.eq_1, List.drop_eq_nil_of_le (by simp; omega)]; rfl
      | succ k ih =>
        intro j out1 hj h2
        have hjl : j < row.length := by omega
        have hge := h0 row[j] (List.getElem_mem hjl)
        rw [ref09_counted_m1_L0.eq_2, gi_cast hjl, fold_zip _ row j hjl, add1_cast (i := j), w64_id (x := (row.length : Int) - 1) (by omega) (by omega)]
        have hsay : (if ((j : Int) == (row.length : Int) - 1) = true then some (-1) else some (j : Int)) = some (sayR row j) := by
          unfold sayR; by_cases e : (j : Int) = (row.length : Int) - 1 <;> simp [e]
        simp only [hsay, Option.bind_some, un1, decide_eq_true_eq]
        by_cases hz : row[j] = 0
        · rw [if_neg (by omega), if_pos hz]
          exact ih (j + 1) out1 (by omega) h2
        · rw [if_pos (by omega), if_neg hz, gapp_eq (by simp; omega)]
          simp only [List.nil_append, Option.bind_some]
          rw [gapp_eq (by simp; omega)]
          simp only [Option.bind_some]
          rw [counted_eq row hrow h0 n hn m fuel _ (b ++ [sayR row j]) out1 (by simp; omega) (by omega) h2 (begR_snoc hb hjl)]
          simp only [Option.bind_some]
          rw [grd_true (by rw [addR_len]; exact h2)]
          simp only [Option.bind_some]
          exact ih (j + 1) _ (by omega) (by rw [addR_len]; exact h2)
    have q1 := loop row.length 0 out (by omega) ho
    simp only [List.drop_zero, Int.natCast_zero] at q1
    rw [toNat_sub_zero, q1]
    rfl
/-- .. with no readings as yet -/
theorem counted0_eq (row : List Int) (hrow : 2 ≤ row.length ∧ row.length ≤ 9) (h0 : ∀ x ∈ row, 0 ≤ x) (n : Nat) (hn : n ≤ 5) (hn1 : 1 ≤ n) (w : Int) (out : List Int) (ho : out.length = row.length) : ref09_counted_m row n w out row.length = some (addR row n [] w out) := by
  unfold ref09_counted_m
  have hne : ((0 : Int) == (n : Int)) = false := by simp; omega
  simp only [hne, Bool.false_eq_true, if_false]
  obtain ⟨m, rfl⟩ : ∃ m, n = m + 1 := ⟨n - 1, by omega⟩
  have loop : ∀ (k j : Nat) (out1 : List Int), j + k = row.length → out1.length = row.length →
      ref09_counted_m_L0 row ((m + 1 : Nat) : Int) w row.length k out1 j = some (((row.zipIdx).drop j).foldl (fun out x => if x.1 = 0 then out else addR row m ([] ++ [sayR row x.2]) (w64 (w * x.1)) out) out1) := by
    intro k
    induction k with
    | zero =>
      intro j out1 hj h2
      rw [ref09_counted_m_L0.eq_1, List.drop_eq_nil_of_le (by simp; omega)]; rfl
    | succ k ih =>
      intro j out1 hj h2
      have hjl : j < row.length := by omega
      have hge := h0 row[j] (List.getElem_mem hjl)
      rw [ref09_counted_m_L0.eq_2, gi_cast hjl, fold_zip _ row j hjl, add1_cast (i := j), w64_id (x := (row.length : Int) - 1) (by omega) (by omega)]
      have hsay : (if ((j : Int) == (row.length : Int) - 1) = true then some (-1) else some (j : Int)) = some (sayR row j) := by
        unfold sayR; by_cases e : (j : Int) = (row.length : Int) - 1 <;> simp [e]
      simp only [hsay, Option.bind_some, un1, decide_eq_true_eq]
      by_cases hz : row[j] = 0
      · rw [if_neg (by omega), if_pos hz]
        exact ih (j + 1) out1 (by omega) h2
      · rw [if_pos (by omega), if_neg hz, gapp_eq (by simp)]
        simp only [List.nil_append, Option.bind_some]
        rw [gapp_eq (by simp)]
        simp only [Option.bind_some, List.nil_append]
        rw [counted_eq row hrow h0 (m + 1) hn m 100000 _ [sayR row j] out1 (by simp; omega) (by omega) h2 (begR_snoc (b := []) (fun x hx => by cases hx) hjl)]
        simp only [Option.bind_some]
        rw [grd_true (by rw [addR_len]; exact h2)]
        simp only [Option.bind_some]
        exact ih (j + 1) _ (by omega) (by rw [addR_len]; exact h2)
  have q1 := loop row.length 0 out (by omega) ho
  simp only [List.drop_zero, Int.natCast_zero] at q1
  rw [toNat_sub_zero, q1]
  rfl
theorem rowR_spec {k : Nat} {row : List Int} (h : rowR k row = true) : row.length = k + 1 ∧ (∀ x ∈ row, 0 ≤ x ∧ x ≤ 1000) ∧ row.sum = 1000 := by
  simp only [rowR, Bool.and_eq_true, decide_eq_true_eq, List.all_eq_true] at h
  exact ⟨h.1.1, fun x hx => within_spec.1 (h.1.2 x hx), h.2⟩
theorem tableR_spec {l : List (List Int)} (h : tableR l = true) : 1 ≤ l.length ∧ l.length ≤ 8 ∧ ∀ r ∈ l, rowR l.length r = true := by
  simp only [tableR, Bool.and_eq_true, List.all_eq_true] at h
  have := within_spec.1 h.1
  exact ⟨by omega, by omega, h.2⟩
/-- the chances of a row -/
def chR (row : List Int) (n : Int) : List Int := addR row n.toNat [] 1 (List.replicate row.length 0)
theorem sort_chances_eq (row : List Int) (hrow : 2 ≤ row.length ∧ row.length ≤ 9) (n : Int) (h1 : 1 ≤ n) (h5 : n ≤ 5) : sort_chances row n = some (chR row n) := by
  unfold sort_chances
  have g1 : gmk (row.length : Int) (0 : Int) = some (List.replicate row.length 0) := by unfold gmk; rw [if_pos (by omega)]; simp
  have g2 : gmk n (0 : Int) = some (List.replicate n.toNat 0) := by unfold gmk; rw [if_pos (by omega)]
  rw [g1, g2]
  simp only [Option.bind_some, List.length_replicate]
  obtain ⟨rs, q1, q2, q3⟩ := fill_eq row hrow n.toNat (by omega) n.toNat 0 100000 1 (List.replicate n.toNat 0) (List.replicate row.length 0) (by omega) (by omega) (by simp) (by simp) (fun x hx => by simp at hx)
  rw [w64_id (by omega) (by omega)]
  rw [show ((n.toNat : Nat) : Int) = n by omega] at q1
  simp only [Int.natCast_zero] at q1
  rw [q1]
  rfl
theorem ref09_Counted_eq (l : List (List Int)) (hl : tableR l = true) (kind n : Int) (hk : 0 ≤ kind) (hk2 : kind < l.length) (h1 : 1 ≤ n) (h5 : n ≤ 5) : ref09_Counted l kind n = some (chR (l[kind.toNat]'(by omega)) n) := by
  obtain ⟨t1, t2, t3⟩ := tableR_spec hl
  obtain ⟨r1, r2, r3⟩ := rowR_spec (t3 _ (List.getElem_mem (by omega : kind.toNat < l.length)))
  unfold ref09_Counted
  have g1 : gmk ((l.length : Int) + 1) (0 : Int) = some (List.replicate (l.length + 1) 0) := by unfold gmk; rw [if_pos (by omega)]; congr 2
  rw [w64_id (by omega) (by omega), g1, gi_some hk hk2]
  simp only [Option.bind_some, List.length_replicate]
  have := counted0_eq (l[kind.toNat]'(by omega)) (by omega) (fun x hx => (r2 x hx).1) n.toNat (by omega) (by omega) 1 (List.replicate (l.length + 1) 0) (by simp [r1])
  rw [show ((n.toNat : Nat) : Int) = n by omega, r1] at this
  rw [this]
  simp [chR, r1]
end Go.Abs
