/- The statement CronLists in plain words. -/
import Derived.Test.YtldieadbkaphkaaGreatDoorCronM
namespace Go.Proofs.YtldieadbkaphkaaGreatDoor

theorem splitL_cons (c x : UInt8) (r : Bs) : splitL c (x :: r) = if x = c then [] :: splitL c r else (x :: (splitL c r).headD []) :: (splitL c r).tail := rfl
theorem splitL_none (c : UInt8) : ∀ (a : Bs), c ∉ a → splitL c a = [a]
  | [], _ => rfl
  | x :: r, h => by
    have hx : ¬ x = c := fun e => h (by simp [e])
    have hr : c ∉ r := fun e => h (by simp [e])
    unfold splitL
    rw [if_neg hx, splitL_none c r hr]
    rfl
theorem splitL_app (c : UInt8) : ∀ (a b : Bs), c ∉ a → splitL c (a ++ c :: b) = a :: splitL c b
  | [], b, _ => by simp [splitL]
  | x :: r, b, h => by
    have hx : ¬ x = c := fun e => h (by simp [e])
    have hr : c ∉ r := fun e => h (by simp [e])
    have ih := splitL_app c r b hr
    show splitL c (x :: (r ++ c :: b)) = _
    rw [splitL_cons, if_neg hx, ih]
    rfl
theorem splitL_two (c : UInt8) : ∀ (a b : Bs), splitL c (a ++ c :: b) = splitL c a ++ splitL c b
  | [], b => by simp [splitL]
  | x :: r, b => by
    have ih := splitL_two c r b
    have hf := splitL_form c r
    show splitL c (x :: (r ++ c :: b)) = splitL c (x :: r) ++ _
    rw [splitL_cons, splitL_cons, ih]
    by_cases h : x = c
    · rw [if_pos h, if_pos h]; rfl
    · rw [if_neg h, if_neg h, hf]; rfl

theorem partsF_app (f : Fld) : ∀ (l k : List Bs), partsF f (l ++ k) = if (partsF f l).2 ≠ 0 then ([], (partsF f l).2) else if (partsF f k).2 ≠ 0 then ([], (partsF f k).2) else ((partsF f l).1 ++ (partsF f k).1, 0)
  | [], k => by
    simp only [List.nil_append, partsF]
    by_cases h : (partsF f k).2 = 0
    · simp [h]
      exact Prod.ext rfl h
    · simp only [ne_eq, not_true, if_false, h, not_false_iff, if_true]
      have : ∀ k : List Bs, (partsF f k).2 ≠ 0 → (partsF f k).1 = [] := by
        intro k
        cases k with
        | nil => intro h; exact absurd rfl h
        | cons p r =>
          unfold partsF
          intro h
          split
          · rfl
          · rename_i h1
            rw [if_neg h1] at h
            split
            · rfl
            · rename_i h2; rw [if_neg h2] at h; exact absurd rfl h
      exact Prod.ext (this k h) rfl
  | p :: l, k => by
    have ih := partsF_app f l k
    simp only [List.cons_append, partsF]
    rw [ih]
    by_cases h1 : (partF f p).2 = 0
    · by_cases h2 : (partsF f l).2 = 0
      · by_cases h3 : (partsF f k).2 = 0
        · simp [h1, h2, h3]
        · simp [h1, h2, h3]
      · simp [h1, h2]
    · simp [h1]

theorem parse_app (a rest : Bs) (ha : (32 : UInt8) ∉ a) (hl : (a ++ 32 :: rest).length ≤ 128) :
    parseF (a ++ 32 :: rest) = if (splitL 32 rest).length ≠ 4 then ([], 2) else if (valuesF (fld 0) a).2 ≠ 0 then ([], (valuesF (fld 0) a).2) else if (fieldsF 1 (splitL 32 rest)).2 ≠ 0 then ([], (fieldsF 1 (splitL 32 rest)).2) else ((valuesF (fld 0) a).1 :: (fieldsF 1 (splitL 32 rest)).1, 0) := by
  unfold parseF
  rw [if_neg (by omega), splitL_app 32 a rest ha]
  simp only [List.length_cons]
  by_cases h : (splitL 32 rest).length = 4
  · rw [if_neg (by omega), if_neg (by omega)]
    rfl
  · rw [if_pos (by omega), if_pos h]

/-- A list names just what its parts name. -/
theorem lists_law (a b rest : Bs) (h1 : a.length ≤ 20) (h2 : b.length ≤ 20) (h3 : rest.length ≤ 60) (ha : (32 : UInt8) ∉ a) (hb : (32 : UInt8) ∉ b) (t : Int) :
    if (cronF (a ++ 32 :: rest)).2 ≠ 0 ∨ (cronF (b ++ 32 :: rest)).2 ≠ 0 then (cronF (a ++ 44 :: b ++ 32 :: rest)).2 ≠ 0
    else (cronF (a ++ 44 :: b ++ 32 :: rest)).2 = 0 ∧ (cronF (a ++ 44 :: b ++ 32 :: rest)).1.mi = (cronF (a ++ 32 :: rest)).1.mi ||| (cronF (b ++ 32 :: rest)).1.mi ∧
      atB (cronF (a ++ 44 :: b ++ 32 :: rest)).1 t = (atB (cronF (a ++ 32 :: rest)).1 t || atB (cronF (b ++ 32 :: rest)).1 t) := by
  have hab : (32 : UInt8) ∉ a ++ 44 :: b := by simp [ha, hb]
  have pa := parse_app a rest ha (by simp; omega)
  have pb := parse_app b rest hb (by simp; omega)
  have pc := parse_app (a ++ 44 :: b) rest hab (by simp; omega)
  have hv : valuesF (fld 0) (a ++ 44 :: b) = if (valuesF (fld 0) a).2 ≠ 0 then ([], (valuesF (fld 0) a).2) else if (valuesF (fld 0) b).2 ≠ 0 then ([], (valuesF (fld 0) b).2) else ((valuesF (fld 0) a).1 ++ (valuesF (fld 0) b).1, 0) := by
    unfold valuesF
    rw [splitL_two]
    exact partsF_app _ _ _
  have sa := splitL_app 32 a rest ha
  have sb := splitL_app 32 b rest hb
  have sc := splitL_app 32 (a ++ 44 :: b) rest hab
  have ea : cronF (a ++ 32 :: rest) = if (parseF (a ++ 32 :: rest)).2 = 0 then (exF (a ++ 32 :: rest), 0) else (Ex.zero, (parseF (a ++ 32 :: rest)).2) := rfl
  have eb : cronF (b ++ 32 :: rest) = if (parseF (b ++ 32 :: rest)).2 = 0 then (exF (b ++ 32 :: rest), 0) else (Ex.zero, (parseF (b ++ 32 :: rest)).2) := rfl
  have ec : cronF (a ++ 44 :: b ++ 32 :: rest) = if (parseF (a ++ 44 :: b ++ 32 :: rest)).2 = 0 then (exF (a ++ 44 :: b ++ 32 :: rest), 0) else (Ex.zero, (parseF (a ++ 44 :: b ++ 32 :: rest)).2) := rfl
  unfold exF at ea eb ec
  rw [sa, pa] at ea
  rw [sb, pb] at eb
  rw [sc, pc, hv] at ec
  rw [ea, eb, ec]
  clear ea eb ec sa sb sc pa pb pc hv
  generalize valuesF (fld 0) a = va
  generalize valuesF (fld 0) b = vb
  generalize fieldsF 1 (splitL 32 rest) = fr
  generalize splitL 32 rest = L
  obtain ⟨xa, ia⟩ := va
  obtain ⟨xb, ib⟩ := vb
  obtain ⟨xf, jf⟩ := fr
  by_cases g0 : L.length = 4
  · by_cases g1 : ia = 0
    · by_cases g2 : ib = 0
      · by_cases g3 : jf = 0
        · subst g1 g2 g3
          simp only [g0, ne_eq, not_true, if_false, if_true, or_self, List.getD_cons_zero, List.getD_cons_succ, true_and]
          refine ⟨orBits_append xa xb, ?_⟩
          unfold atB
          split
          · unfold namesM namesB
            simp only [orBits_append, Nat.testBit_or]
            generalize (orBits xa).testBit _ = p
            generalize (orBits xb).testBit _ = q
            cases p <;> cases q <;> simp
            all_goals (split <;> (try split) <;> simp_all)
          · rfl
        · simp [g0, g1, g2, g3]
      · simp [g0, g1, g2]
    · simp [g0, g1]
  · simp [g0]

end Go.Proofs.YtldieadbkaphkaaGreatDoor
