/- The document's own answers (ref05): IsName, CheckType. -/
import Derived.Test.YtcaepnbamnicmaaDoorDm
import Derived.Test.YtcaepnbamnicmaaDoorPn
namespace Go.Proofs.YtcaepnbamnicmaaDoor
open Go.RowKit Go.Proofs.YtcaepnbamnicmaaDoorW.PrintWords

theorem nameByte_iff (b : UInt8) : nameByte b = true ↔ (65 ≤ b.toNat ∧ b.toNat ≤ 90) ∨ (97 ≤ b.toNat ∧ b.toNat ≤ 122) ∨ b.toNat = 95 ∨ b.toNat = 36 ∨ (48 ≤ b.toNat ∧ b.toNat ≤ 57) := by
  have : ∀ n : Fin 256, nameByte (UInt8.ofNat n.val) = true ↔ (65 ≤ n.val ∧ n.val ≤ 90) ∨ (97 ≤ n.val ∧ n.val ≤ 122) ∨ n.val = 95 ∨ n.val = 36 ∨ (48 ≤ n.val ∧ n.val ≤ 57) := by decide +kernel
  have h2 := this ⟨b.toNat, b.toNat_lt⟩
  simpa using h2
theorem digitByte_iff (b : UInt8) : digitByte b = true ↔ 48 ≤ b.toNat ∧ b.toNat ≤ 57 := by
  have : ∀ n : Fin 256, digitByte (UInt8.ofNat n.val) = true ↔ 48 ≤ n.val ∧ n.val ≤ 57 := by decide +kernel
  have h2 := this ⟨b.toNat, b.toNat_lt⟩
  simpa using h2

set_option maxHeartbeats 1000000 in
theorem refIsName_any (s : ByteArray) (w : World) :
    Calls Tryd.prog 18 #[.string s] w fun e w' => e = .returned (.bool (isName s)) ∧ Below w.heap.size w w' := by
  by_cases hb : 1 ≤ s.size ∧ s.size ≤ 64
  · obtain ⟨h1, h2⟩ := hb
    have HN := hid (isName_iff s)
    go_enter Tryd.func18, Tryd.ntmps18
    go_wp2
    go_loopw [3] (fun i wr => ∃ k : Nat, k ≤ s.size ∧ i = .int .i64 k ∧ Hid (∀ j (h : j < s.size), j < k → nameByte (s[j]'h) = true ∧ (j = 0 → digitByte (s[j]'h) = false)) ∧ wr = w) (fun i _ => s.size - (intOf i).toNat)
    case atStart => exact ⟨0, by omega, rfl, fun j _ h => absurd h (by omega), rfl⟩
    obtain ⟨k, hk, rfl, hI, rfl⟩ := hrel
    by_cases hlt : k < s.size
    · have hk1 : ((k : Int) + 1).toNat = k + 1 := by omega
      have HB := hid (nameByte_iff (s[k]'hlt))
      have HD := hid (digitByte_iff (s[k]'hlt))
      have hlt256 : (s[k]'hlt).toNat < 256 := UInt8.toNat_lt _
      by_cases hg : nameByte (s[k]'hlt) = true ∧ (k = 0 → digitByte (s[k]'hlt) = false)
      · have HNX : Hid (∀ j (h : j < s.size), j < k + 1 → nameByte (s[j]'h) = true ∧ (j = 0 → digitByte (s[j]'h) = false)) := fun j h hj => by
          by_cases e : j = k
          · subst e; exact hg
          · exact hI.out j h (by omega)
        have h5 : (97 ≤ (s[k]'hlt).toNat ∧ (s[k]'hlt).toNat ≤ 122) ∨ (65 ≤ (s[k]'hlt).toNat ∧ (s[k]'hlt).toNat ≤ 90) ∨ (s[k]'hlt).toNat = 95 ∨ (s[k]'hlt).toNat = 36 ∨ (48 ≤ (s[k]'hlt).toNat ∧ (s[k]'hlt).toNat ≤ 57 ∧ 0 < k) := by
          have h1 := HB.out.1 hg.1
          by_cases hk0 : k = 0
          · have h2 := hg.2 hk0
            have h3 : ¬ (48 ≤ (s[k]'hlt).toNat ∧ (s[k]'hlt).toNat ≤ 57) := fun h => by rw [HD.out.2 h] at h2; cases h2
            omega
          · omega
        clear hg HB HD hI
        rcases h5 with ⟨a5, b5⟩ | ⟨a5, b5⟩ | a5 | a5 | ⟨a5, b5, c5⟩
        · go_wp2
          go_roundw
          case rel => exact ⟨k + 1, by omega, by go_num, HNX, trivial⟩
          case measure => simp [intOf]; omega
        · go_wp2
          go_roundw
          case rel => exact ⟨k + 1, by omega, by go_num, HNX, trivial⟩
          case measure => simp [intOf]; omega
        · go_wp2
          go_roundw
          case rel => exact ⟨k + 1, by omega, by go_num, HNX, trivial⟩
          case measure => simp [intOf]; omega
        · go_wp2
          go_roundw
          case rel => exact ⟨k + 1, by omega, by go_num, HNX, trivial⟩
          case measure => simp [intOf]; omega
        · have hk0 : ((k : Int) == 0) = false := by rw [beq_eq_false_iff_ne]; omega
          go_wp2
          go_roundw
          case rel => exact ⟨k + 1, by omega, by go_num, HNX, trivial⟩
          case measure => simp [intOf]; omega
      · have HF : Hid (isName s = false) := by
          show isName s = false
          cases e : isName s with
          | false => rfl
          | true =>
            obtain ⟨_, _, n3, n4⟩ := HN.out.1 e
            refine absurd ⟨?_, fun h0 => ?_⟩ hg
            · exact List.all_eq_true.1 n4 _ (Array.getElem_mem_toList (xs := s.data) hlt)
            · subst h0
              exact n3 _ (by rw [toList_cons s hlt]; rfl)
        have h7 : (s[k]'hlt).toNat < 36 ∨ (36 < (s[k]'hlt).toNat ∧ (s[k]'hlt).toNat < 48) ∨ (48 ≤ (s[k]'hlt).toNat ∧ (s[k]'hlt).toNat ≤ 57 ∧ k = 0) ∨ (57 < (s[k]'hlt).toNat ∧ (s[k]'hlt).toNat < 65) ∨ (90 < (s[k]'hlt).toNat ∧ (s[k]'hlt).toNat < 95) ∨ (s[k]'hlt).toNat = 96 ∨ 122 < (s[k]'hlt).toNat := by
          have h1 : nameByte (s[k]'hlt) = true → k = 0 ∧ 48 ≤ (s[k]'hlt).toNat ∧ (s[k]'hlt).toNat ≤ 57 := fun h => by
            by_cases hk0 : k = 0
            · refine ⟨hk0, HD.out.1 ?_⟩
              cases e : digitByte (s[k]'hlt) with
              | true => rfl
              | false => exact absurd ⟨h, fun _ => e⟩ hg
            · exact absurd ⟨h, fun h0 => absurd h0 hk0⟩ hg
          have h2 := HB.out.2
          have h3 : (s[k]'hlt).toNat < 256 := hlt256
          by_cases hb : (65 ≤ (s[k]'hlt).toNat ∧ (s[k]'hlt).toNat ≤ 90) ∨ (97 ≤ (s[k]'hlt).toNat ∧ (s[k]'hlt).toNat ≤ 122) ∨ (s[k]'hlt).toNat = 95 ∨ (s[k]'hlt).toNat = 36 ∨ (48 ≤ (s[k]'hlt).toNat ∧ (s[k]'hlt).toNat ≤ 57)
          · have h4 := h1 (h2 hb)
            omega
          · omega
        clear hg HB HD hI
        have f95 : (((s[k]'hlt).toNat : Int) == 95) = false := by rw [beq_eq_false_iff_ne]; omega
        have f36 : (((s[k]'hlt).toNat : Int) == 36) = false := by rw [beq_eq_false_iff_ne]; omega
        rcases h7 with a7 | ⟨a7, b7⟩ | ⟨a7, b7, c7⟩ | ⟨a7, b7⟩ | ⟨a7, b7⟩ | a7 | a7
        any_goals subst c7
        all_goals
          first
            | (have g90 : decide (((s[k]'hlt).toNat : Int) ≤ 90) = false := by rw [decide_eq_false_iff_not]; omega
               have g122 : decide (((s[k]'hlt).toNat : Int) ≤ 122) = false := by rw [decide_eq_false_iff_not]; omega
               go_wp2)
            | (have g90 : decide (((s[k]'hlt).toNat : Int) ≤ 90) = false := by rw [decide_eq_false_iff_not]; omega
               go_wp2)
            | go_wp2
          go_ret
          exact ⟨by rw [HF.out]; rfl, Below.refl _ _⟩
    · go_wp2
      go_ret
      have HT : isName s = true := HN.out.2 ⟨h1, h2, fun b hb => by
        rw [toList_cons s h1] at hb
        obtain rfl := Option.some.inj hb
        exact (hI.out 0 h1 (by omega)).2 rfl, is_all (fun i h => (hI.out i h (by omega)).1)⟩
      exact ⟨by rw [HT]; rfl, Below.refl _ _⟩
  · have HF : Hid (isName s = false) := by
      show isName s = false
      cases e : isName s with
      | false => rfl
      | true => exact absurd (isName_size e) hb
    by_cases h1 : s.size < 1
    · clear hb
      go_enter Tryd.func18, Tryd.ntmps18
      go_wp2
      go_ret
      exact ⟨by rw [HF.out]; rfl, Below.refl _ _⟩
    · have h2 : 64 < s.size := by omega
      clear hb
      go_enter Tryd.func18, Tryd.ntmps18
      go_wp2
      go_ret
      exact ⟨by rw [HF.out]; rfl, Below.refl _ _⟩
end Go.Proofs.YtcaepnbamnicmaaDoor
