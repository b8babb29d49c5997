/- descr.IsName. -/
import Derived.Test.YtcaepnbamnicmaaDoorDb
namespace Go.Proofs.YtcaepnbamnicmaaDoor
open Go.RowKit

theorem ret_bool {a b : Bool} (h : a = b) : Ending.returned (.bool a) = .returned (.bool b) := by rw [h]
theorem dataLen (s : ByteArray) : s.data.toList.length = s.size := rfl
theorem isEmpty_iff (s : ByteArray) : s.toList.isEmpty = decide (s.size = 0) := by
  rw [ByteArray.toList_eq]
  cases h : s.data.toList with
  | nil => have := dataLen s; rw [h] at this; simp only [List.length_nil] at this; rw [← this]; rfl
  | cons a l => have := dataLen s; rw [h] at this; simp only [List.length_cons] at this; rw [decide_eq_false (by omega)]; rfl
theorem toList_cons (s : ByteArray) (h : 0 < s.size) : s.data.toList = s[0]'h :: s.data.toList.tail := by
  have h1 : 0 < s.data.toList.length := by rw [dataLen]; exact h
  have h2 := List.cons_head_tail (List.ne_nil_of_length_pos h1)
  rw [← h2]
  congr 1
  rw [List.head_eq_getElem]
  rfl
theorem not_all {s : ByteArray} {i : Nat} (h : i < s.size) (hn : nameByte (s[i]'h) = false) : s.data.toList.all nameByte = false := by
  cases e : s.data.toList.all nameByte with
  | false => rfl
  | true =>
    rw [List.all_eq_true] at e
    have : s[i]'h ∈ s.data.toList := Array.getElem_mem_toList (xs := s.data) h
    rw [e _ this] at hn
    cases hn
theorem is_all {s : ByteArray} (h : ∀ i (h : i < s.size), nameByte (s[i]'h) = true) : s.data.toList.all nameByte = true := by
  rw [List.all_eq_true]
  intro x hx
  obtain ⟨i, hi, rfl⟩ := List.getElem_of_mem hx
  exact h i (by rw [dataLen] at hi; exact hi)
theorem isName_of (s : ByteArray) (h : 0 < s.size) : isName s = (decide (s.size ≤ 64) && !digitByte (s[0]'h) && s.data.toList.all nameByte) := by
  unfold isName
  have := toList_cons s h
  rw [this]
  simp only [isNameL]
  rw [← this]
  simp
theorem digit_of (b : UInt8) : decide (0 ≤ Lib.indexByte [48, 49, 50, 51, 52, 53, 54, 55, 56, 57] b) = digitByte b := by
  have : ∀ n : Fin 256, decide (0 ≤ Lib.indexByte [48, 49, 50, 51, 52, 53, 54, 55, 56, 57] (UInt8.ofNat n.val)) = digitByte (UInt8.ofNat n.val) := by decide +kernel
  have h2 := this ⟨b.toNat, b.toNat_lt⟩
  simpa using h2
set_option maxRecDepth 100000 in
set_option maxHeartbeats 1000000 in
theorem isName_any (s : ByteArray) (w : World) :
    Calls Tryd.prog 17 #[.string s] w fun e w' => e = .returned (.bool (isName s)) ∧ Below w.heap.size w w' := by
  by_cases h0 : s.size = 0
  · have hs : s.toList.isEmpty = true := by rw [isEmpty_iff, h0]; rfl
    have HR : Hid (isName s = false) := by
      unfold isName
      have : s.data.toList = [] := List.eq_nil_of_length_eq_zero (by rw [dataLen]; exact h0)
      rw [this]; rfl
    clear h0
    go_enter Tryd.func17, Tryd.ntmps17
    go_wp2
    go_ret
    exact ⟨ret_bool HR.out.symm, Below.refl _ _⟩
  · have hpos : 0 < s.size := by omega
    have hs : s.toList.isEmpty = false := by rw [isEmpty_iff]; simpa using h0
    have HN := hid (isName_of s hpos)
    have hdg := hid (digit_of (s[0]'hpos))
    go_enter Tryd.func17, Tryd.ntmps17
    go_wp2_with (go_at_call 46; refine (same (Tryd.strings_IndexByte _ _ _)).mono ?_; rintro e w' ⟨rfl, rfl⟩)
    · go_ret
      have h1 : 64 < (s.size : Int) ∨ 0 ≤ Lib.indexByte [48, 49, 50, 51, 52, 53, 54, 55, 56, 57] (s[0]'hpos) := by assumption
      refine ⟨ret_bool ?_, Below.refl _ _⟩
      rw [HN.out, ← hdg.out]
      rcases h1 with h1 | h1
      · rw [decide_eq_false (by omega)]; rfl
      · have h2 : decide ((0 : Int) ≤ Lib.indexByte [48, 49, 50, 51, 52, 53, 54, 55, 56, 57] (s[0]'hpos)) = true := by simpa using h1
        rw [h2]; simp
    · have h1 : (s.size : Int) ≤ 64 ∧ Lib.indexByte [48, 49, 50, 51, 52, 53, 54, 55, 56, 57] (s[0]'hpos) < 0 := by assumption
      have hnd : digitByte (s[0]'hpos) = false := by rw [← hdg.out]; simp; omega
      have HN' : Hid (isName s = s.data.toList.all nameByte) := by
        have := HN.out
        rw [hnd] at this
        rw [decide_eq_true (by omega)] at this
        simpa [Hid] using this
      clear hdg hnd HN
      go_loopw [4] (fun _ wr => ∃ pos : Nat, wr.heap[w.heap.size]? = some (.stringIter s pos) ∧ Below w.heap.size w wr ∧ Hid (∀ i (h : i < s.size), i < pos → nameByte (s[i]'h) = true)) (fun _ wr => s.size - wr.iterPos w.heap.size)
      case atStart => exact ⟨0, World.iter_heap w s 0, (Below.refl _ _).alloc (Nat.le_refl _) _, fun _ _ h => by omega⟩
      case round =>
        obtain ⟨pos, hit, hbw, hall⟩ := hrel
        have hpos0 := hid (iterPos_of hit)
        by_cases hp : pos < s.size
        · by_cases ha : (s[pos]'hp).toNat < 128
          · have hnx : ∀ ty, (Instr.next (.pointer (some ⟨w.heap.size, 0, none⟩)) true ty).run Tryd.prog wr = _ := fun ty => Lib.run_next_ascii_at wr w.heap.size s pos ty hit hp ha
            have hit2 := hid (Lib.iterAt_heap wr w.heap.size s pos (pos + 1) hit)
            have hbw2 := Lib.below_iterAt hbw (k := w.heap.size) (Nat.le_refl _) s (pos + 1)
            have hch := hid (chars_name _ ha)
            clear hit hbw
            cases hnb : nameByte (s[pos]'hp) with
            | true =>
              rw [hnb] at hch
              have HB := hid hnb
              clear hnb
              have hcon : ∀ W, Calls Tryd.prog 47 #[.string nameChars, .int .i32 ((s[pos]'hp).toNat : Int)] W fun e w' => e = .returned (.bool true) ∧ W = w' := fun W => by
                have := same (Tryd.strings_ContainsRune_ascii nameChars ((s[pos]'hp).toNat : Int) W (by omega) (by omega))
                rw [hch.out] at this
                exact this
              go_wp2_with (go_at_call 47; refine (hcon _).mono ?_; rintro e w' ⟨rfl, rfl⟩)
              go_roundw
              case rel => exact ⟨pos + 1, hit2.out, hbw2, fun i h hi => by
                by_cases e : i = pos
                · subst e; exact HB.out
                · exact hall.out i h (by omega)⟩
              case measure => rw [iterPos_of hit2.out, hpos0.out]; omega
            | false =>
              rw [hnb] at hch
              have HB := hid hnb
              clear hnb
              have hcon : ∀ W, Calls Tryd.prog 47 #[.string nameChars, .int .i32 ((s[pos]'hp).toNat : Int)] W fun e w' => e = .returned (.bool false) ∧ W = w' := fun W => by
                have := same (Tryd.strings_ContainsRune_ascii nameChars ((s[pos]'hp).toNat : Int) W (by omega) (by omega))
                rw [hch.out] at this
                exact this
              go_wp2_with (go_at_call 47; refine (hcon _).mono ?_; rintro e w' ⟨rfl, rfl⟩)
              go_ret
              refine ⟨ret_bool ?_, hbw2⟩
              rw [HN'.out]
              exact (not_all hp HB.out).symm
          · have hnx : ∀ ty, (Instr.next (.pointer (some ⟨w.heap.size, 0, none⟩)) true ty).run Tryd.prog wr = _ := fun ty => Lib.run_next_any_at wr w.heap.size s pos ty hit hp
            have hbw2 := Lib.below_iterAt hbw (k := w.heap.size) (Nat.le_refl _) s (pos + (Utf8.decode s pos).2)
            have h1 := (decode_high s pos hp (by omega)).1
            have h2 := decode_le s pos
            clear hit hbw
            go_wp2_with (go_at_call 47; refine (containsRune_high _ (by omega) (by omega) _).mono ?_; rintro e w' ⟨rfl, hb⟩)
            go_ret
            refine ⟨ret_bool ?_, ?_⟩
            · rw [HN'.out]
              exact (not_all hp (name_ascii _ ha)).symm
            · exact hbw2.trans (hb.mono hbw2.size)
        · have hnx : ∀ ty, (Instr.next (.pointer (some ⟨w.heap.size, 0, none⟩)) true ty).run Tryd.prog wr = _ := fun ty => Lib.run_next_end_at wr w.heap.size s pos ty hit hp
          clear hit
          go_wp2
          go_ret
          refine ⟨ret_bool ?_, hbw⟩
          rw [HN'.out]
          exact (is_all fun i h => hall.out i h (by omega)).symm
    · have h1 : 64 < (s.size : Int) := by assumption
      go_ret
      refine ⟨ret_bool ?_, Below.refl _ _⟩
      rw [HN.out, decide_eq_false (by omega)]
      rfl

end Go.Proofs.YtcaepnbamnicmaaDoor
