/- The text of an expression that was parsed is parsed to it: in plain words. -/
import Derived.Test.YtfdnhpmdbcfepaaDoorTextL
import Derived.Test.YtfdnhpmdbcfepaaDoorCronK
namespace Go.Proofs.YtfdnhpmdbcfepaaDoor

theorem split_join (c : UInt8) : ∀ l : List Bs, l ≠ [] → (∀ a ∈ l, c ∉ a) → splitL c (joinL c l) = l
  | [], h, _ => absurd rfl h
  | [a], _, h => splitL_none c a (h a (by simp))
  | a :: b :: r, _, h => by
    have ih := split_join c (b :: r) (by simp) fun x hx => h x (List.mem_cons_of_mem _ hx)
    show splitL c (a ++ c :: joinL c (b :: r)) = _
    rw [splitL_app c a _ (h a (by simp)), ih]
theorem joinL_mem {c x : UInt8} : ∀ {l : List Bs}, x ∈ joinL c l → x = c ∨ ∃ a ∈ l, x ∈ a
  | [], h => by simp [joinL] at h
  | [a], h => .inr ⟨a, by simp, h⟩
  | a :: b :: r, h => by
    rw [joinL, List.mem_append, List.mem_cons] at h
    rcases h with h | h | h
    · exact .inr ⟨a, by simp, h⟩
    · exact .inl h
    · rcases joinL_mem h with h | ⟨d, hd, hx⟩
      · exact .inl h
      · exact .inr ⟨d, List.mem_cons_of_mem _ hd, hx⟩
theorem dec2_chars : ∀ j : Fin 64, ∀ x ∈ dec2 j.val, 48 ≤ x.toNat ∧ x.toNat ≤ 57 := by decide +kernel
theorem dec2_head : ∀ j : Fin 64, ∃ x r, dec2 j.val = x :: r ∧ 48 ≤ x.toNat := fun j => by
  have h := dec2_chars j
  have hne : dec2 j.val ≠ [] := by unfold dec2; split <;> simp
  cases hd : dec2 j.val with
  | nil => exact absurd hd hne
  | cons x r => rw [hd] at h; exact ⟨x, r, rfl, (h x (by simp)).1⟩
theorem part_dec2 : ∀ k : Fin 5, ∀ j : Fin 60, ((fld k.val).low ≤ (j.val : Int) ∧ (j.val : Int) ≤ (fld k.val).high) → partF (fld k.val) (dec2 j.val) = ([(j.val : Int)], 0) := by decide +kernel
theorem text_nospace (v : Nat) (a : Bool) : (32 : UInt8) ∉ textF v a := by
  unfold textF
  split
  · decide
  · split
    · decide
    · intro h
      rcases joinL_mem h with h | ⟨d, hd, hx⟩
      · exact absurd h (by decide)
      · obtain ⟨j, hj, rfl⟩ := List.mem_map.1 hd
        have := dec2_chars ⟨j, ((bitsL_mem v j).1 hj).1⟩ _ hx
        exact absurd this.1 (by decide)
theorem text_star {v : Nat} (h0 : v ≠ 0) (hv : v < 18446744073709551616) (a : Bool) : textF v a = [42] ↔ a = true := by
  unfold textF
  cases a
  · rw [if_neg (by decide), if_neg h0]
    refine ⟨fun h => ?_, fun h => absurd h (by decide)⟩
    exfalso
    have hs := bitsL_step h0 hv
    obtain ⟨x, r, hx, hx2⟩ := dec2_head ⟨Lib.ctz 64 v, (low_clear h0 hv).1⟩
    simp only at hx
    rw [hs, List.map_cons, hx] at h
    have : x = 42 := by
      cases hb : (bitsL (v &&& (v - 1))).map dec2 with
      | nil => rw [hb] at h; simp [joinL] at h; exact h.1
      | cons d q => rw [hb] at h; simp [joinL] at h
    rw [this] at hx2; exact absurd hx2 (by decide)
  · exact ⟨fun _ => rfl, fun _ => by rw [if_pos rfl]⟩
theorem parts_dec2 (k : Fin 5) : ∀ l : List Nat, (∀ j ∈ l, (fld k.val).low ≤ (j : Int) ∧ (j : Int) ≤ (fld k.val).high) → partsF (fld k.val) (l.map dec2) = (l.map (fun j : Nat => (j : Int)), 0)
  | [], _ => rfl
  | j :: r, h => by
    have ih := parts_dec2 k r fun x hx => h x (List.mem_cons_of_mem _ hx)
    obtain ⟨h1, h2⟩ := h j (by simp)
    have h3 := (fld_high k.val).2
    have hp := part_dec2 k ⟨j, by omega⟩ ⟨h1, h2⟩
    simp only at hp
    rw [List.map_cons, partsF, hp, ih]
    simp
theorem values_text (k : Fin 5) {v : Nat} (h0 : v ≠ 0) (hv : v < 18446744073709551616) (h : ∀ j, v.testBit j = true → (fld k.val).low ≤ (j : Int) ∧ (j : Int) ≤ (fld k.val).high) :
    valuesF (fld k.val) (textF v false) = ((bitsL v).map (fun j : Nat => (j : Int)), 0) := by
  unfold valuesF textF
  rw [if_neg (by decide), if_neg h0, split_join 44 _ (by have := bitsL_ne h0 hv; simpa using this)]
  · exact parts_dec2 k _ fun j hj => h j ((bitsL_mem v j).1 hj).2
  · intro a ha hx
    obtain ⟨j, hj, rfl⟩ := List.mem_map.1 ha
    have := dec2_chars ⟨j, ((bitsL_mem v j).1 hj).1⟩ _ hx
    exact absurd this.1 (by decide)
theorem orBits_bits {v : Nat} (hv : v < 18446744073709551616) : orBits ((bitsL v).map (fun j : Nat => (j : Int))) = v := by
  apply Nat.eq_of_testBit_eq
  intro j
  rw [testBit_orBits _ (fun x hx => by obtain ⟨y, _, rfl⟩ := List.mem_map.1 hx; omega), Bool.eq_iff_iff, decide_eq_true_iff]
  constructor
  · intro h
    obtain ⟨y, hy, e⟩ := List.mem_map.1 h
    have : y = j := by omega
    subst this
    exact ((bitsL_mem v y).1 hy).2
  · intro h
    have hj : j < 64 := by
      by_cases hj : j < 64
      · exact hj
      · exfalso
        rw [Nat.testBit_lt_two_pow (Nat.lt_of_lt_of_le hv (Nat.pow_le_pow_right (n := 2) (by decide) (show 64 ≤ j by omega)))] at h
        exact absurd h (by decide)
    exact List.mem_map.2 ⟨j, (bitsL_mem v j).2 ⟨hj, h⟩, rfl⟩
theorem star_bits : ∀ k : Fin 5, orBits (valuesF (fld k.val) [42]).1 = wholeN k.val := by decide +kernel

/-- What is parsed has some value. -/
theorem part_ne (i : Nat) (s : Bs) (h : (partF (fld i) s).2 = 0) : (partF (fld i) s).1 ≠ [] := by
  unfold partF at h ⊢
  cases hs : spanF (fld i) (cutL 47 s).1 (cutL 47 s).2.2 with
  | none => rw [hs] at h; simp at h
  | some q =>
    obtain ⟨a, b, e⟩ := q
    rw [hs] at h
    simp only at h ⊢
    split at h
    · exact absurd h (by decide)
    · rename_i h1
      rw [if_neg h1]
      split at h
      · rename_i h2; exact absurd h h2
      · rename_i h2
        rw [if_neg h2]
        split at h
        · rename_i h3; exact absurd h h3
        · rename_i h3
          rw [if_neg h3]
          have he : e = 0 := by simpa using h2
          subst he
          have := spanF_in i _ _ a b hs
          rw [rangeL, if_pos this.2.2]
          simp
theorem values_ne (i : Nat) (s : Bs) (h : (valuesF (fld i) s).2 = 0) : (valuesF (fld i) s).1 ≠ [] := by
  unfold valuesF at h ⊢
  have hne := splitL_ne 44 s
  cases hl : splitL 44 s with
  | nil => exact absurd hl hne
  | cons p r =>
    rw [hl] at h
    rw [partsF] at h ⊢
    split at h
    · rename_i h1; exact absurd h h1
    · rename_i h1
      rw [if_neg h1]
      split at h
      · rename_i h2; exact absurd h h2
      · rename_i h2
        rw [if_neg h2]
        have := part_ne i p (by simpa using h1)
        intro hc
        exact this (List.append_eq_nil_iff.1 hc).1

theorem eq_sunday {v : Nat} (hv : v < 18446744073709551616) (h7 : v.testBit 7 = false) : sunday v = v := by
  apply Nat.eq_of_testBit_eq
  intro j
  by_cases hj : j < 64
  · rw [testBit_sunday v j hj]
    by_cases e7 : j = 7
    · rw [if_pos e7, e7, h7]
    · rw [if_neg e7]
      by_cases e0 : j = 0
      · rw [if_pos e0, e0, h7, Bool.or_false]
      · rw [if_neg e0]
  · have hp : (18446744073709551616 : Nat) ≤ 2 ^ j := Nat.pow_le_pow_right (n := 2) (by decide) (show 64 ≤ j by omega)
    rw [Nat.testBit_lt_two_pow (Nat.lt_of_lt_of_le (sunday_lt v) hp), Nat.testBit_lt_two_pow (Nat.lt_of_lt_of_le hv hp)]

/-- A field of an expression that was parsed, and its text: the same values. -/
theorem field_text {s : Bs} (h : (parseF s).2 = 0) (k : Fin 5) :
    fieldV (exF s) k.val ≠ 0 ∧ fieldV (exF s) k.val < 18446744073709551616 ∧ (valuesF (fld k.val) (textF (fieldV (exF s) k.val) (anyF (exF s) k.val))).2 = 0 ∧
    (if k.val = 4 then sunday (orBits (valuesF (fld k.val) (textF (fieldV (exF s) k.val) (anyF (exF s) k.val))).1) else orBits (valuesF (fld k.val) (textF (fieldV (exF s) k.val) (anyF (exF s) k.val))).1) = fieldV (exF s) k.val := by
  have hk := k.isLt
  have g := parseF_get h hk
  have hne := values_ne k.val _ g.2
  have hin := parseF_in h hk
  rw [← g.1] at hne
  have hr : ∀ x ∈ (parseF s).1.getD k.val [], 0 ≤ x ∧ x ≤ 63 := fun x hx => by
    have := hin x hx; have a := fld_low k.val; have b := fld_high k.val; omega
  have hlt := orBits_lt _ hr
  have htb := testBit_orBits ((parseF s).1.getD k.val []) (fun x hx => (hr x hx).1)
  obtain ⟨x0, hx0⟩ := List.exists_mem_of_ne_nil _ hne
  have hx0r := hr x0 hx0
  have hb0 : (orBits ((parseF s).1.getD k.val [])).testBit x0.toNat = true := by rw [htb, decide_eq_true_iff, show ((x0.toNat : Nat) : Int) = x0 by omega]; exact hx0
  -- the plain fields
  have plain : ∀ v a, v = orBits ((parseF s).1.getD k.val []) → (a = true → v = orBits (valuesF (fld k.val) [42]).1) → v ≠ 0 ∧ v < 18446744073709551616 ∧ (valuesF (fld k.val) (textF v a)).2 = 0 ∧ orBits (valuesF (fld k.val) (textF v a)).1 = v := fun v a hv ha => by
    have hv0 : v ≠ 0 := fun e => by rw [hv] at e; rw [e, Nat.zero_testBit] at hb0; exact absurd hb0 (by decide)
    have hvl : v < 18446744073709551616 := by rw [hv]; exact hlt
    refine ⟨hv0, hvl, ?_⟩
    cases a
    · have hvt := values_text k hv0 hvl (fun j hj => by
        rw [hv, htb, decide_eq_true_iff] at hj
        exact hin _ hj)
      rw [hvt]
      exact ⟨rfl, orBits_bits hvl⟩
    · have : textF v true = [42] := by unfold textF; rw [if_pos rfl]
      rw [this]
      exact ⟨(values_star k.val).1, (ha rfl).symm⟩
  have hcases : k.val = 0 ∨ k.val = 1 ∨ k.val = 2 ∨ k.val = 3 ∨ k.val = 4 := by omega
  have hst := star_bits k
  rcases hcases with e | e | e | e | e
  · rw [e] at plain hst ⊢
    exact plain (exF s).mi _ rfl (fun ha => by rw [hst]; exact eq_of_beq (show ((exF s).mi == 1152921504606846975) = true from ha))
  · rw [e] at plain hst ⊢
    exact plain (exF s).ho _ rfl (fun ha => by rw [hst]; exact eq_of_beq (show ((exF s).ho == 16777215) = true from ha))
  · rw [e] at plain hst g ⊢
    refine plain (exF s).da _ rfl (fun ha => ?_)
    have hs2 : (splitL 32 s).getD 2 [] = [42] := of_decide_eq_true ha
    rw [hs2] at g
    show orBits ((parseF s).1.getD 2 []) = _
    rw [g.1]
  · rw [e] at plain hst ⊢
    exact plain (exF s).mo _ rfl (fun ha => by rw [hst]; exact eq_of_beq (show ((exF s).mo == 8190) = true from ha))
  · rw [e] at hlt htb hb0 hin g ⊢
    have hwe : fieldV (exF s) 4 = sunday (orBits ((parseF s).1.getD 4 [])) := rfl
    have hv0 : fieldV (exF s) 4 ≠ 0 := fun e0 => by
      rw [hwe] at e0
      by_cases h7 : x0.toNat = 7
      · have := testBit_sunday (orBits ((parseF s).1.getD 4 [])) 0 (by decide)
        rw [e0, Nat.zero_testBit, if_neg (by decide), if_pos rfl, ← h7, hb0, Bool.or_true] at this
        exact absurd this (by decide)
      · have := testBit_sunday (orBits ((parseF s).1.getD 4 [])) x0.toNat (by omega)
        rw [e0, Nat.zero_testBit, if_neg h7] at this
        by_cases hz : x0.toNat = 0
        · rw [if_pos hz, ← hz, hb0, Bool.true_or] at this; exact absurd this (by decide)
        · rw [if_neg hz, hb0] at this; exact absurd this (by decide)
    have hvl : fieldV (exF s) 4 < 18446744073709551616 := by rw [hwe]; exact sunday_lt _
    have h7 : (fieldV (exF s) 4).testBit 7 = false := by rw [hwe, testBit_sunday _ _ (by decide), if_pos rfl]
    refine ⟨hv0, hvl, ?_⟩
    rw [if_pos rfl]
    show (valuesF (fld 4) (textF (fieldV (exF s) 4) (exF s).aw)).2 = 0 ∧ sunday (orBits (valuesF (fld 4) (textF (fieldV (exF s) 4) (exF s).aw)).1) = _
    cases ha : (exF s).aw
    · have hvt := values_text ⟨4, by decide⟩ hv0 hvl (fun j hj => by
        have hj64 : j < 64 := by
          by_cases hj' : j < 64
          · exact hj'
          · exfalso
            rw [Nat.testBit_lt_two_pow (Nat.lt_of_lt_of_le hvl (Nat.pow_le_pow_right (n := 2) (by decide) (show 64 ≤ j by omega)))] at hj
            exact absurd hj (by decide)
        have hs := testBit_sunday (orBits ((parseF s).1.getD 4 [])) j hj64
        rw [hwe, hs] at hj
        show (0 : Int) ≤ j ∧ (j : Int) ≤ 7
        by_cases e7 : j = 7
        · omega
        · rw [if_neg e7] at hj
          by_cases e0 : j = 0
          · omega
          · rw [if_neg e0, htb, decide_eq_true_iff] at hj
            have := hin _ hj
            exact this)
      simp only at hvt
      rw [hvt]
      exact ⟨rfl, by rw [orBits_bits hvl, eq_sunday hvl h7]⟩
    · have : textF (fieldV (exF s) 4) true = [42] := by unfold textF; rw [if_pos rfl]
      rw [this]
      have hs4 : (splitL 32 s).getD 4 [] = [42] := of_decide_eq_true ha
      rw [hs4] at g
      exact ⟨(values_star 4).1, by rw [hwe, g.1]⟩

theorem text_parse {s : Bs} (h : (parseF s).2 = 0) (hl : (textE (exF s)).length ≤ 128) : cronF (textE (exF s)) = (exF s, 0) := by
  have hsp : splitL 32 (textE (exF s)) = textsE (exF s) := split_join 32 _ (by unfold textsE; simp) fun a ha => by
    unfold textsE at ha
    obtain ⟨k, _, rfl⟩ := List.mem_map.1 ha
    exact text_nospace _ _
  have h5 : (textsE (exF s)).length = 5 := by unfold textsE; simp
  have hget : ∀ k, k < 5 → (textsE (exF s)).getD k [] = textF (fieldV (exF s) k) (anyF (exF s) k) := fun k hk => by
    unfold textsE
    rw [List.getD_eq_getElem?_getD, List.getElem?_map, List.getElem?_range hk]; rfl
  have hall : (fieldsF 0 (textsE (exF s))).2 = 0 := by
    have aux : ∀ (l : List Bs) (i : Nat), (∀ j, j < l.length → (valuesF (fld (i + j)) (l.getD j [])).2 = 0) → (fieldsF i l).2 = 0 := fun l => by
      induction l with
      | nil => intro i _; rfl
      | cons t r ih =>
        intro i hj
        have h0 := hj 0 (by simp)
        have hr := ih (i + 1) fun j hj' => by have := hj (j + 1) (by simp; omega); rw [show i + (j + 1) = i + 1 + j by omega] at this; simpa using this
        simp at h0
        rw [fieldsF, h0, hr]
        simp
    exact aux _ 0 fun j hj => by rw [h5] at hj; rw [Nat.zero_add, hget j hj]; exact (field_text h ⟨j, hj⟩).2.2.1
  have hP : (parseF (textE (exF s))).2 = 0 := by
    unfold parseF; rw [if_neg (by omega), hsp, if_neg (by simp [h5])]; exact hall
  have hV : ∀ k, k < 5 → (parseF (textE (exF s))).1.getD k [] = (valuesF (fld k) (textF (fieldV (exF s) k) (anyF (exF s) k))).1 := fun k hk => by
    have := (parseF_get hP hk).1
    rw [hsp, hget k hk] at this; exact this
  have f0 := (field_text h ⟨0, by decide⟩).2.2.2
  have f1 := (field_text h ⟨1, by decide⟩).2.2.2
  have f2 := field_text h ⟨2, by decide⟩
  have f3 := (field_text h ⟨3, by decide⟩).2.2.2
  have f4 := field_text h ⟨4, by decide⟩
  unfold cronF
  rw [if_pos hP]
  congr 1
  have e2 : decide ((splitL 32 (textE (exF s))).getD 2 [] = [42]) = (exF s).ad := by
    rw [hsp, hget 2 (by decide), Bool.eq_iff_iff, decide_eq_true_iff]
    exact text_star f2.1 f2.2.1 _
  have e4 : decide ((splitL 32 (textE (exF s))).getD 4 [] = [42]) = (exF s).aw := by
    rw [hsp, hget 4 (by decide), Bool.eq_iff_iff, decide_eq_true_iff]
    exact text_star f4.1 f4.2.1 _
  have key : exF (textE (exF s)) = ⟨fieldV (exF s) 0, fieldV (exF s) 1, fieldV (exF s) 2, fieldV (exF s) 3, fieldV (exF s) 4, (exF s).ad, (exF s).aw⟩ := by
    have g0 : orBits (valuesF (fld 0) (textF (fieldV (exF s) 0) (anyF (exF s) 0))).1 = fieldV (exF s) 0 := f0
    have g1 : orBits (valuesF (fld 1) (textF (fieldV (exF s) 1) (anyF (exF s) 1))).1 = fieldV (exF s) 1 := f1
    have g2 : orBits (valuesF (fld 2) (textF (fieldV (exF s) 2) (anyF (exF s) 2))).1 = fieldV (exF s) 2 := f2.2.2.2
    have g3 : orBits (valuesF (fld 3) (textF (fieldV (exF s) 3) (anyF (exF s) 3))).1 = fieldV (exF s) 3 := f3
    have g4 : sunday (orBits (valuesF (fld 4) (textF (fieldV (exF s) 4) (anyF (exF s) 4))).1) = fieldV (exF s) 4 := f4.2.2.2
    rw [← hV 0 (by decide)] at g0
    rw [← hV 1 (by decide)] at g1
    rw [← hV 2 (by decide)] at g2
    rw [← hV 3 (by decide)] at g3
    rw [← hV 4 (by decide)] at g4
    rw [← g0, ← g1, ← g2, ← g3, ← g4, ← e2, ← e4]
    rfl
  rw [key]
  rfl

end Go.Proofs.YtfdnhpmdbcfepaaDoor
