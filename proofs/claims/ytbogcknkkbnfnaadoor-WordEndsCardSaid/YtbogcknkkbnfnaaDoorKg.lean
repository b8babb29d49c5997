/- Two neighbouring runs, exchanged. -/
import Derived.Test.YtbogcknkkbnfnaaDoorKf
namespace Go.Proofs.YtbogcknkkbnfnaaDoor
open Go.RowKit Go.Proofs.YtbogcknkkbnfnaaDoorW.PrintWords

theorem swp_get (d : List El) (i j x : Nat) (hi : i < d.length) (hj : j < d.length) : (swp d i j)[x]? = if x = j then d[i]? else if x = i then d[j]? else d[x]? := by
  unfold swp
  simp only [List.getElem?_set, List.length_set, List.getD]
  rw [List.getElem?_eq_getElem hi, List.getElem?_eq_getElem hj]
  by_cases h1 : x = j
  · subst h1; simp [hj]
  · have h1' : ¬ j = x := fun e => h1 e.symm
    rw [if_neg h1, if_neg h1']
    by_cases h2 : x = i
    · subst h2; simp [hi]
    · have h2' : ¬ i = x := fun e => h2 e.symm
      rw [if_neg h2, if_neg h2']
theorem swpN_get (d : List El) (a b k x : Nat) (h1 : a + k ≤ b) (h2 : b + k ≤ d.length) : (swpN d a b k)[x]? = if a ≤ x ∧ x < a + k then d[x + (b - a)]? else if b ≤ x ∧ x < b + k then d[x - (b - a)]? else d[x]? := by
  induction k generalizing x with
  | zero => simp only [swpN]; rw [if_neg (by omega), if_neg (by omega)]
  | succ k ih =>
    have hl := swpN_len d a b k
    rw [swpN, swp_get _ _ _ _ (by omega) (by omega)]
    have ih' := fun x => ih x (by omega) (by omega)
    by_cases e1 : x = b + k
    · rw [if_pos e1, ih', if_neg (by omega), if_neg (by omega), if_neg (by omega), if_pos (by omega)]
      congr 1; omega
    · rw [if_neg e1]
      by_cases e2 : x = a + k
      · rw [if_pos e2, ih', if_neg (by omega), if_neg (by omega), if_pos (by omega)]
        congr 1; omega
      · rw [if_neg e2, ih']
        by_cases c1 : a ≤ x ∧ x < a + k
        · rw [if_pos c1, if_pos (show a ≤ x ∧ x < a + (k + 1) by omega)]
        · rw [if_neg c1, if_neg (show ¬ (a ≤ x ∧ x < a + (k + 1)) by omega)]
          by_cases c2 : b ≤ x ∧ x < b + k
          · rw [if_pos c2, if_pos (show b ≤ x ∧ x < b + (k + 1) by omega)]
          · rw [if_neg c2, if_neg (show ¬ (b ≤ x ∧ x < b + (k + 1)) by omega)]
theorem swpN_mid (P A M B S : List El) (h : A.length = B.length) : swpN (P ++ (A ++ (M ++ (B ++ S)))) P.length (P.length + A.length + M.length) A.length = P ++ (B ++ (M ++ (A ++ S))) := by
  apply List.ext_getElem?
  intro x
  rw [swpN_get _ _ _ _ _ (by omega) (by simp; omega)]
  simp only [List.getElem?_append]
  by_cases c0 : x < P.length
  · rw [if_neg (by omega), if_neg (by omega), if_pos c0, if_pos c0]
  · by_cases c1 : x < P.length + A.length
    · rw [if_pos (by omega), if_neg (by omega), if_neg (by omega), if_neg (by omega), if_pos (by omega), if_neg c0, if_pos (by omega)]
      congr 1; omega
    · by_cases c2 : x < P.length + A.length + M.length
      · rw [if_neg (by omega), if_neg (by omega), if_neg c0, if_neg (by omega), if_pos (by omega), if_neg c0, if_neg (by omega), if_pos (by omega)]
        congr 1; omega
      · by_cases c3 : x < P.length + A.length + M.length + B.length
        · rw [if_neg (by omega), if_pos (by omega), if_neg (by omega), if_pos (by omega), if_neg c0, if_neg (by omega), if_neg (by omega), if_pos (by omega)]
          congr 1; omega
        · rw [if_neg (by omega), if_neg (by omega), if_neg c0, if_neg (by omega), if_neg (by omega), if_neg (by omega), if_neg c0, if_neg (by omega), if_neg (by omega), if_neg (by omega)]
          congr 1; omega

/-- How far the exchange of two runs has come: what becomes T. -/
def RInv (T : List El) (m i j : Nat) (d : List El) : Prop := ∃ P U V S : List El, d = P ++ (U ++ (V ++ S)) ∧ P.length + i = m ∧ U.length = i ∧ V.length = j ∧ T = P ++ (V ++ (U ++ S))
theorem RInv.len {T : List El} {m i j : Nat} {d : List El} (h : RInv T m i j d) : d.length = T.length ∧ i ≤ m ∧ m + j ≤ T.length := by
  obtain ⟨P, U, V, S, rfl, h1, h2, h3, rfl⟩ := h
  simp only [List.length_append]
  omega
theorem RInv.left {T : List El} {m i j : Nat} {d : List El} (h : RInv T m i j d) (hij : j < i) : RInv T m (i - j) j (swpN d (m - i) m j) := by
  obtain ⟨P, U, V, S, rfl, h1, h2, h3, rfl⟩ := h
  have e := swpN_mid P (U.take j) (U.drop j) V S (by simp; omega)
  rw [← List.append_assoc (U.take j) (U.drop j), List.take_append_drop, List.length_take, List.length_drop] at e
  refine ⟨P ++ V, U.drop j, U.take j, S, ?_, by simp; omega, by simp; omega, by simp; omega, ?_⟩
  · rw [show m - i = P.length by omega, show swpN (P ++ (U ++ (V ++ S))) P.length m j = swpN (P ++ (U ++ (V ++ S))) P.length (P.length + min j U.length + (U.length - j)) (min j U.length) by congr 1 <;> omega, e]
    simp
  · rw [← List.append_assoc (U.take j) (U.drop j), List.take_append_drop]
    simp
theorem RInv.right {T : List El} {m i j : Nat} {d : List El} (h : RInv T m i j d) (hij : i < j) : RInv T m i (j - i) (swpN d (m - i) (m + j - i) i) := by
  obtain ⟨P, U, V, S, rfl, h1, h2, h3, rfl⟩ := h
  have e := swpN_mid P U (V.take (j - i)) (V.drop (j - i)) S (by simp; omega)
  rw [← List.append_assoc (V.take (j - i)) (V.drop (j - i)), List.take_append_drop, List.length_take] at e
  refine ⟨P, V.drop (j - i), V.take (j - i), U ++ S, ?_, h1, by simp; omega, by simp; omega, ?_⟩
  · rw [show m - i = P.length by omega, show swpN (P ++ (U ++ (V ++ S))) P.length (m + j - i) i = swpN (P ++ (U ++ (V ++ S))) P.length (P.length + U.length + min (j - i) V.length) U.length by congr 1 <;> omega, e]
  · rw [← List.append_assoc (V.take (j - i)) (V.drop (j - i)), List.take_append_drop]
theorem RInv.done {T : List El} {m i : Nat} {d : List El} (h : RInv T m i i d) : swpN d (m - i) m i = T := by
  obtain ⟨P, U, V, S, rfl, h1, h2, h3, rfl⟩ := h
  have e := swpN_mid P U [] V S (by omega)
  simp only [List.nil_append, List.length_nil, Nat.add_zero] at e
  rw [show m - i = P.length by omega, show swpN (P ++ (U ++ (V ++ S))) P.length m i = swpN (P ++ (U ++ (V ++ S))) P.length (P.length + U.length) U.length by congr 1 <;> omega, e]
/-- The runs from a to m, and from m to b, exchanged. -/
def rotL (d : List El) (a m b : Nat) : List El := d.take a ++ ((d.take b).drop m ++ ((d.take m).drop a ++ d.drop b))
theorem rotL_inv (d : List El) (a m b : Nat) (h1 : a ≤ m) (h2 : m ≤ b) (h3 : b ≤ d.length) : RInv (rotL d a m b) m (m - a) (b - m) d := by
  refine ⟨d.take a, (d.take m).drop a, (d.take b).drop m, d.drop b, ?_, by simp; omega, by simp; omega, by simp; omega, rfl⟩
  have e1 : (d.take b).drop m ++ d.drop b = d.drop m := by
    have := List.take_append_drop b d
    conv => rhs; rw [← this]
    rw [List.drop_append_of_le_length (by simp; omega)]
  rw [e1]
  have e2 : (d.take m).drop a ++ d.drop m = d.drop a := by
    have := List.take_append_drop m d
    conv => rhs; rw [← this]
    rw [List.drop_append_of_le_length (by simp; omega)]
  rw [e2, List.take_append_drop]

set_option maxHeartbeats 2000000 in
theorem rotate_any (g c : Nat) (tl : List Value) (f : Value) (d : List El) (N a m b : Nat) (w0 w : World) (hW : SWr g tl w0 d w) (hN : d.length = N) (ha : a < m) (hm : m < b) (hb : b ≤ N) (hl : N ≤ 4611686018427387903) :
    Calls Tryd.prog 167 #[.slice (some ⟨g, 0, none⟩) N c, .int .i64 a, .int .i64 m, .int .i64 b, f] w fun e w' => e = .returned (.tuple #[]) ∧ SWr g tl w0 (rotL d a m b) w' := by
  have HI := hid (rotL_inv d a m b (by omega) (by omega) (by omega))
  have HL := hid (show (rotL d a m b).length = N by rw [← HI.out.len.1]; exact hN)
  clear hN
  generalize rotL d a m b = T at *
  have s1 : (m : Int) - a = ((m - a : Nat) : Int) := by omega
  have s2 : (b : Int) - m = ((b - m : Nat) : Int) := by omega
  go_enter Tryd.func167, Tryd.ntmps167
  go_wp2
  clear s1 s2
  go_loopw [10, 11] (fun u v wr => ∃ (i j : Nat) (dk : List El), u = .int .i64 i ∧ v = .int .i64 j ∧ 0 < i ∧ 0 < j ∧ Hid (RInv T m i j dk) ∧ SWr g tl w0 dk wr) (fun u v _ => (intOf u).toNat + (intOf v).toNat)
  case atStart => exact ⟨m - a, b - m, d, rfl, rfl, by omega, by omega, HI, hW⟩
  obtain ⟨i, j, dk, rfl, rfl, hi, hj, hR, hW⟩ := hrel
  obtain ⟨k1, k2, k3⟩ := hR.out.len
  rw [HL.out] at k1 k3
  have HK := hid k1
  clear k1
  by_cases hij : i = j
  · subst hij
    have b1 : ((i : Int) != (i : Int)) = false := by simp
    have s1 : (m : Int) - i = ((m - i : Nat) : Int) := by omega
    have HD := hid hR.out.done
    go_wp2_with fail
    clear b1 s1
    refine (swapRange_any g c tl f dk N (m - i) m i w0 _ hW HK.out (by omega) (by omega) hl).mono ?_
    rintro e w1 ⟨rfl, hW1⟩
    rw [HD.out] at hW1
    go_wp2
    go_end0
    exact ⟨rfl, hW1⟩
  · have b1 : ((i : Int) != (j : Int)) = true := by rw [bne_iff_ne]; omega
    by_cases hlt : j < i
    · have HD := hid (hR.out.left hlt)
      have s1 : (m : Int) - i = ((m - i : Nat) : Int) := by omega
      have s2 : (i : Int) - j = ((i - j : Nat) : Int) := by omega
      go_wp2_with fail
      clear b1 s1
      refine (swapRange_any g c tl f dk N (m - i) m j w0 _ hW HK.out (by omega) (by omega) hl).mono ?_
      rintro e w1 ⟨rfl, hW1⟩
      go_wp2
      go_roundw
      case rel => exact ⟨i - j, j, _, by go_num, rfl, by omega, hj, HD, hW1⟩
      case measure => simp [intOf]; omega
    · have HD := hid (hR.out.right (by omega))
      have s1 : (m : Int) - i = ((m - i : Nat) : Int) := by omega
      have s3 : (m : Int) + j - i = ((m + j - i : Nat) : Int) := by omega
      have s2 : (j : Int) - i = ((j - i : Nat) : Int) := by omega
      go_wp2_with fail
      clear b1 s1 s3
      refine (swapRange_any g c tl f dk N (m - i) (m + j - i) i w0 _ hW HK.out (by omega) (by omega) hl).mono ?_
      rintro e w1 ⟨rfl, hW1⟩
      go_wp2
      go_roundw
      case rel => exact ⟨i, j - i, _, rfl, by go_num, hi, by omega, HD, hW1⟩
      case measure => simp [intOf]; omega
end Go.Proofs.YtbogcknkkbnfnaaDoor
