/- What is written is read, and what can be read is written so. -/
import Derived.Test.YtcaepnbamnicmaaDoorDk
import Derived.Test.YtcaepnbamnicmaaDoorPn
namespace Go.Proofs.YtcaepnbamnicmaaDoor

theorem hasPrefix_iff {l p : List UInt8} : Lib.hasPrefix l p = true ↔ ∃ r, l = p ++ r := by
  unfold Lib.hasPrefix
  rw [List.isPrefixOf_iff_prefix]
  exact ⟨fun ⟨r, h⟩ => ⟨r, h.symm⟩, fun ⟨r, h⟩ => ⟨r, h.symm⟩⟩
theorem hasPrefix_split {l p : List UInt8} (h : Lib.hasPrefix l p = true) : l = p ++ l.drop p.length := by
  obtain ⟨r, rfl⟩ := hasPrefix_iff.1 h
  simp
theorem tyL_eq (t : Ty) : tyL t = befL (t.k - 1).toNat ++ (t.n.data.toList ++ (aft (t.k - 1).toNat).data.toList) := by
  unfold tyL tyText
  rw [bef_tx]
  simp [tx]
theorem tyL_at (j : Nat) (n : ByteArray) : tyL ⟨(j : Int) + 1, n⟩ = befL j ++ (n.data.toList ++ (aft j).data.toList) := by
  rw [tyL_eq]
  have : (((j : Int) + 1) - 1).toNat = j := by omega
  simp only [this]
theorem aft_plain {j : Nat} (hn : nmd j = false) : aft j = ⟨#[]⟩ := by
  match j, hn with
  | 0, _ => rfl
  | 1, _ => rfl
  | 3, _ => rfl
  | 4, _ => rfl
  | _ + 6, _ => rfl
theorem kindFrom_text {d j : Nat} {l b : List UInt8} {t : Ty} (hd : d + j = 6) (h : kindFrom d j l = some (t, b)) : tyOk t = true ∧ l = tyL t ++ b := by
  induction d generalizing j with
  | zero => cases h
  | succ d ih =>
    unfold kindFrom at h
    split at h
    · rename_i hp
      have hs := hasPrefix_split hp
      split at h
      · rename_i hn
        split at h
        · cases h
        · rename_i a b' hc
          split at h
          · rename_i ho
            cases h
            refine ⟨ho, ?_⟩
            rw [tyL_at, tx_toList, aft_named (by omega) hn]
            have h1 := (cutAt_some hc).1
            rw [h1] at hs
            rw [hs]
            simp
          · cases h
      · rename_i hn
        cases h
        have hn' : nmd j = false := by simpa using hn
        refine ⟨tyOk_plain (by omega) hn', ?_⟩
        rw [tyL_at, aft_plain hn']
        simpa using hs
    · exact ih (by omega) h
theorem kindL_text {l b : List UInt8} {t : Ty} (h : kindL l = some (t, b)) : tyOk t = true ∧ l = tyL t ++ b := kindFrom_text rfl h

theorem cutAt_of {n b : List UInt8} (h : 59 ∉ n) : cutAt (n ++ 59 :: b) = some (n, b) := by
  induction n with
  | nil => rfl
  | cons c n ih =>
    simp only [List.mem_cons, not_or] at h
    have := ih h.2
    simp only [List.cons_append, cutAt]
    rw [if_neg (fun e => h.1 e.symm), this]
    rfl
theorem name_semi {s : ByteArray} (h : isName s = true) : 59 ∉ s.data.toList := by
  rw [isName_iff] at h
  intro hm
  have := List.all_eq_true.1 h.2.2.2 _ hm
  cases this
theorem pre_no (p l : List UInt8) (c d : UInt8) (h : c ≠ d) : Lib.hasPrefix (d :: l) (c :: p) = false := by
  show ((c == d) && p.isPrefixOf l) = false
  simp [h]
theorem kindL_of {t : Ty} (b : List UInt8) (h : tyOk t = true) : kindL (tyL t ++ b) = some (t, b) := by
  obtain ⟨k, n⟩ := t
  have hr := tyOk_range h
  simp only at hr
  have h6 : k = 1 ∨ k = 2 ∨ k = 3 ∨ k = 4 ∨ k = 5 ∨ k = 6 := by omega
  rw [tyL_eq]
  have empty : ¬ (k = 3 ∨ k = 6) → n = ⟨#[]⟩ := fun hk => by
    unfold tyOk at h
    simp only [if_neg hk, Bool.and_eq_true, decide_eq_true_eq] at h
    exact nameEmpty h.2
  rcases h6 with rfl | rfl | rfl | rfl | rfl | rfl
  · obtain rfl := empty (by omega)
    rfl
  · obtain rfl := empty (by omega)
    rfl
  · have hn : isName n = true := h
    have e : befL ((3 : Int) - 1).toNat ++ (n.data.toList ++ (aft ((3 : Int) - 1).toNat).data.toList) ++ b = 76 :: (n.data.toList ++ 59 :: b) := by
      show [76] ++ (n.data.toList ++ [59]) ++ b = _
      simp
    simp only [e]
    have c := cutAt_of (b := b) (name_semi hn)
    show (match cutAt (n.data.toList ++ 59 :: b) with | none => none | some (a, b) => if tyOk ⟨(2 : Nat) + 1, tx a⟩ then some ((⟨(2 : Nat) + 1, tx a⟩ : Ty), b) else none) = _
    rw [c]
    simp only [tx_of]
    exact if_pos h
  · obtain rfl := empty (by omega)
    rfl
  · obtain rfl := empty (by omega)
    rfl
  · have hn : isName n = true := h
    have e : befL ((6 : Int) - 1).toNat ++ (n.data.toList ++ (aft ((6 : Int) - 1).toNat).data.toList) ++ b = 91 :: 76 :: (n.data.toList ++ 59 :: b) := by
      show [91, 76] ++ (n.data.toList ++ [59]) ++ b = _
      simp
    simp only [e]
    have c := cutAt_of (b := b) (name_semi hn)
    show (match cutAt (n.data.toList ++ 59 :: b) with | none => none | some (a, b) => if tyOk ⟨(5 : Nat) + 1, tx a⟩ then some ((⟨(5 : Nat) + 1, tx a⟩ : Ty), b) else none) = _
    rw [c]
    simp only [tx_of]
    exact if_pos h

theorem typeL_text {l : List UInt8} {t : Ty} (h : typeL l = some t) : tyOk t = true ∧ tyL t = l := by
  unfold typeL at h
  split at h
  · rename_i t' hk
    cases h
    obtain ⟨h1, h2⟩ := kindL_text hk
    exact ⟨h1, by rw [h2]; simp⟩
  · cases h
theorem typeL_of {t : Ty} (h : tyOk t = true) : typeL (tyL t) = some t := by
  have := kindL_of [] h
  rw [List.append_nil] at this
  unfold typeL
  rw [this]

/-- No type begins with a bracket, or with V. -/
theorem tyL_head {t : Ty} (h : tyOk t = true) : ∃ c r, tyL t = c :: r ∧ (c = 73 ∨ c = 74 ∨ c = 76 ∨ c = 91) := by
  have hr := tyOk_range h
  rw [tyL_eq]
  have h6 : t.k = 1 ∨ t.k = 2 ∨ t.k = 3 ∨ t.k = 4 ∨ t.k = 5 ∨ t.k = 6 := by omega
  rcases h6 with e | e | e | e | e | e <;> rw [e]
  · exact ⟨_, _, rfl, by decide⟩
  · exact ⟨_, _, rfl, by decide⟩
  · exact ⟨_, _, rfl, by decide⟩
  · exact ⟨_, _, rfl, by decide⟩
  · exact ⟨_, _, rfl, by decide⟩
  · exact ⟨_, _, rfl, by decide⟩

theorem argsF_text {n : Nat} {l rest : List UInt8} {acc args : List Ty} (h : argsF n l acc = some (args, rest)) (ha : acc.length ≤ 16) : ∃ more, args = acc ++ more ∧ l = more.flatMap tyL ++ 41 :: rest ∧ more.all tyOk = true ∧ args.length ≤ 16 := by
  induction n generalizing l acc with
  | zero => cases h
  | succ n ih =>
    unfold argsF at h
    split at h
    · rename_i hp
      cases h
      exact ⟨[], by simp, by have := hasPrefix_split hp; simpa using this, rfl, ha⟩
    · split at h
      · cases h
      · rename_i t b hk
        split at h
        · cases h
        · rename_i hlen
          obtain ⟨more, h1, h2, h3, h4⟩ := ih h (by simp; omega)
          obtain ⟨k1, k2⟩ := kindL_text hk
          exact ⟨t :: more, by simp [h1], by rw [k2, h2]; simp, by rw [List.all_cons, k1, h3]; rfl, h4⟩
theorem argsF_of {n : Nat} {rest : List UInt8} {acc more : List Ty} (h1 : more.all tyOk = true) (h2 : acc.length + more.length ≤ 16) (h3 : more.length < n) : argsF n (more.flatMap tyL ++ 41 :: rest) acc = some (acc ++ more, rest) := by
  induction more generalizing n acc with
  | nil =>
    match n, h3 with
    | n + 1, _ =>
      unfold argsF
      have : Lib.hasPrefix (List.flatMap tyL [] ++ 41 :: rest) [41] = true := hasPrefix_iff.2 ⟨rest, rfl⟩
      rw [if_pos this]
      simp
  | cons t more ih =>
    rw [List.all_cons, Bool.and_eq_true] at h1
    match n, h3 with
    | n + 1, h3 =>
      simp only [List.length_cons] at h2 h3
      unfold argsF
      obtain ⟨c, r, hc, hc4⟩ := tyL_head h1.1
      have e : List.flatMap tyL (t :: more) ++ 41 :: rest = tyL t ++ (more.flatMap tyL ++ 41 :: rest) := by simp
      have hp : Lib.hasPrefix (tyL t ++ (more.flatMap tyL ++ 41 :: rest)) [41] = false := by
        rw [hc]
        exact pre_no _ _ _ _ (by rcases hc4 with rfl | rfl | rfl | rfl <;> decide)
      rw [e, hp, if_neg (by simp), kindL_of _ h1.1]
      simp only
      rw [if_neg (by omega), ih h1.2 (by simp; omega) (by omega)]
      simp

theorem protoErr_ok {p : Pr} : protoErr p = 0 ↔ p.args.length ≤ 16 ∧ (p.ret.isZero || tyOk p.ret) = true ∧ p.args.all tyOk = true := by
  unfold protoErr
  split
  · exact ⟨fun h => (by cases h), fun h => (by omega)⟩
  · split
    · rename_i h1 h2
      rw [Bool.and_eq_true] at h2
      exact ⟨fun _ => ⟨by omega, h2.1, h2.2⟩, fun _ => rfl⟩
    · rename_i h1 h2
      rw [Bool.and_eq_true] at h2
      exact ⟨fun h => (by cases h), fun h => absurd h.2 h2⟩
theorem isZero_not {t : Ty} (h : tyOk t = true) : t.isZero = false := by
  have := tyOk_range h
  unfold Ty.isZero
  rw [decide_eq_false (by omega)]; rfl
theorem retL_ok {t : Ty} (h : tyOk t = true) : retL t = tyL t := by
  unfold retL
  rw [isZero_not h]; rfl
theorem protoL_text {l : List UInt8} {p : Pr} (h : protoL l = some p) : protoErr p = 0 ∧ protoText p = l := by
  unfold protoL at h
  split at h
  · rename_i hp
    have hs := hasPrefix_split hp
    split at h
    · cases h
    · rename_i args rest ha
      obtain ⟨more, h1, h2, h3, h4⟩ := argsF_text ha (by simp)
      simp only [List.nil_append] at h1
      subst h1
      rw [show ([40] : List UInt8).length = 1 from rfl, h2] at hs
      split at h
      · rename_i hv
        cases h
        subst hv
        exact ⟨protoErr_ok.2 ⟨h4, rfl, h3⟩, hs.symm⟩
      · cases ht : typeL rest with
        | none => rw [ht] at h; cases h
        | some t =>
          rw [ht] at h
          cases h
          obtain ⟨k1, k2⟩ := typeL_text ht
          refine ⟨protoErr_ok.2 ⟨h4, by simp [k1], h3⟩, ?_⟩
          unfold protoText
          simp only [retL_ok k1, k2]
          exact hs.symm
  · cases h
theorem flat_len {l : List Ty} (h : l.all tyOk = true) : l.length ≤ (l.flatMap tyL).length := by
  induction l with
  | nil => simp
  | cons t l ih =>
    rw [List.all_cons, Bool.and_eq_true] at h
    obtain ⟨c, r, hc, _⟩ := tyL_head h.1
    have := ih h.2
    simp only [List.flatMap_cons, List.length_append, List.length_cons, hc]
    omega
theorem protoL_of {p : Pr} (h : protoErr p = 0) : protoL (protoText p) = some p := by
  obtain ⟨h1, h2, h3⟩ := protoErr_ok.1 h
  obtain ⟨r, args⟩ := p
  simp only at h1 h2 h3
  unfold protoL protoText
  have hp : Lib.hasPrefix (40 :: (args.flatMap tyL ++ 41 :: retL r)) [40] = true := hasPrefix_iff.2 ⟨_, rfl⟩
  simp only
  rw [if_pos hp]
  have hl := flat_len h3
  have hf := argsF_of (n := (40 :: (args.flatMap tyL ++ 41 :: retL r)).length + 1) (rest := retL r) (acc := []) h3 (by simpa using h1) (by rw [List.length_cons, List.length_append]; omega)
  rw [show (40 :: (args.flatMap tyL ++ 41 :: retL r)).drop 1 = args.flatMap tyL ++ 41 :: retL r from rfl, hf]
  simp only [List.nil_append]
  by_cases hz : r.isZero = true
  · rw [(isZero_iff r).1 hz]
    rw [if_pos (show retL zTy = [86] by rfl)]
  · rw [Bool.not_eq_true] at hz
    rw [hz, Bool.false_or] at h2
    obtain ⟨c, q, hc, hc4⟩ := tyL_head h2
    rw [retL_ok h2, if_neg (fun e => by rw [hc] at e; cases e; simp at hc4), typeL_of h2]
    rfl
theorem typeL_proto {l : List UInt8} {t : Ty} (h : typeL l = some t) : protoL l = none := by
  obtain ⟨h1, h2⟩ := typeL_text h
  obtain ⟨c, r, hc, hc4⟩ := tyL_head h1
  unfold protoL
  rw [← h2, hc, pre_no _ _ _ _ (by rcases hc4 with rfl | rfl | rfl | rfl <;> decide)]
  rfl
end Go.Proofs.YtcaepnbamnicmaaDoor
