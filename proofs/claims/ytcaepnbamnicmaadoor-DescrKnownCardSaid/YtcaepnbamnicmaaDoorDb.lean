/- strings.ContainsRune at the names' letters, and IsName. -/
import Derived.Test.YtcaepnbamnicmaaDoorProg
import Derived.WalkKit
import Derived.WalkSpells
import Derived.WalkLawsBesides
import Derived.Laws.Rows
import Derived.BigQuiet
import Derived.Deep.QuietTactic
import Derived.Lib.OthersKept
import Derived.Laws.Runes
import Derived.IntWalk
import Derived.Test.YtcaepnbamnicmaaDoorShelf
namespace Go.Proofs.YtcaepnbamnicmaaDoor
open Go.RowKit

def nameChars : ByteArray := ⟨#[65, 66, 67, 68, 69, 70, 71, 72, 73, 74, 75, 76, 77, 78, 79, 80, 81, 82, 83, 84, 85, 86, 87, 88, 89, 90, 97, 98, 99, 100, 101, 102, 103, 104, 105, 106, 107, 108, 109, 110, 111, 112, 113, 114, 115, 116, 117, 118, 119, 120, 121, 122, 95, 36, 48, 49, 50, 51, 52, 53, 54, 55, 56, 57]⟩

theorem same {P : Program} {f : Nat} {a : Array Value} {w : World} {r : Ending} (h : Calls P f a w (fun e w' => e = r ∧ w' = w)) : Calls P f a w (fun e w' => e = r ∧ w = w') := h.mono fun _ _ h => ⟨h.1, h.2.symm⟩
theorem below_drewN' {B : Nat} {a w : World} (h : Below B a w) (n : Nat) : Below B a (w.drewN n) := h.trans ⟨rfl, rfl, rfl, Nat.le_refl _, fun _ _ => rfl⟩
theorem hid {p : Prop} (h : p) : Hid p := h
theorem iterPos_of {w : World} {k : Nat} {s : ByteArray} {p : Nat} (h : w.heap[k]? = some (.stringIter s p)) : w.iterPos k = p := by simp [World.iterPos, h]

theorem indexByte_absent (l : List UInt8) (c : UInt8) (h : ∀ b ∈ l, b ≠ c) : Lib.indexByte l c = -1 := by
  induction l with
  | nil => rfl
  | cons b l ih =>
    have h1 := ih (fun x hx => h x (List.mem_cons_of_mem _ hx))
    have h2 : (b == c) = false := by simpa using h b List.mem_cons_self
    simp [Lib.indexByte, h1, h2]

set_option maxRecDepth 100000 in
set_option maxHeartbeats 1000000 in
theorem indexRune_err (s : ByteArray) (hA : Hid (∀ i (h : i < s.size), (s[i]'h).toNat < 128)) (w : World) :
    Calls Tryd.prog 61 #[.string s, .int .i32 65533] w fun e w' => e = .returned (.int .i64 (-1)) ∧ Below w.heap.size w w' := by
  go_enter Tryd.func61, Tryd.ntmps61
  go_wp2
  go_loopw [4] (fun _ wr => ∃ pos : Nat, wr.heap[w.heap.size]? = some (.stringIter s pos) ∧ Below w.heap.size w wr) (fun _ wr => s.size - wr.iterPos w.heap.size)
  case atStart => exact ⟨0, World.iter_heap w s 0, (Below.refl _ _).alloc (Nat.le_refl _) _⟩
  case round =>
    obtain ⟨pos, hit, hbw⟩ := hrel
    have hpos0 := hid (iterPos_of hit)
    by_cases hp : pos < s.size
    · have hnx : ∀ ty, (Instr.next (.pointer (some ⟨w.heap.size, 0, none⟩)) true ty).run Tryd.prog wr = _ := fun ty => Lib.run_next_ascii_at wr w.heap.size s pos ty hit hp (hA.out _ hp)
      have hit2 := hid (Lib.iterAt_heap wr w.heap.size s pos (pos + 1) hit)
      have hbw2 := Lib.below_iterAt hbw (k := w.heap.size) (Nat.le_refl _) s (pos + 1)
      have hb := hA.out _ hp
      have hne : (((s[pos]'hp).toNat : Int) == 65533) = false := by simp; omega
      clear hit hbw
      go_wp2
      go_roundw
      case rel => exact ⟨pos + 1, hit2.out, hbw2⟩
      case measure => rw [iterPos_of hit2.out, hpos0.out]; omega
    · have hnx : ∀ ty, (Instr.next (.pointer (some ⟨w.heap.size, 0, none⟩)) true ty).run Tryd.prog wr = _ := fun ty => Lib.run_next_end_at wr w.heap.size s pos ty hit hp
      clear hit
      go_wp2
      go_ret
      exact ⟨rfl, hbw⟩

set_option maxRecDepth 100000 in
set_option maxHeartbeats 1000000 in
theorem indexRune_high (s : ByteArray) (hA : Hid (∀ i (h : i < s.size), (s[i]'h).toNat < 128)) (r : Int) (h0 : 128 ≤ r) (h1 : r ≤ 2147483647) (hx1 : (r == 65533) = false) (w : World) :
    Calls Tryd.prog 61 #[.string s, .int .i32 r] w fun e w' => e = .returned (.int .i64 (-1)) ∧ Below w.heap.size w w' := by
  have h2 : decide (r < 128) = false := by simp; omega
  cases hv : Lib.validRune r with
  | true =>
    have H := hid hv
    obtain ⟨e1, e2, e3⟩ := encode_facts r (by rw [validRune_eq]; exact hv) h0
    have E3 := hid e3
    clear e3
    go_enter Tryd.func61, Tryd.ntmps61
    go_wp2_with (go_at_call 69; refine (same (Tryd.utf8_ValidRune _ _)).mono ?_; rintro e w' ⟨rfl, rfl⟩)
    go_step3
    go_wp2
    generalize Utf8.encode r = m at *
    obtain ⟨q, hq⟩ : ∃ q, m.size = q + 1 := ⟨m.size - 1, by omega⟩
    have hq1 : ((m.size : Int) - 1) = (q : Int) := by omega
    have hqm : q < m.size := by omega
    have hb2 : 128 ≤ (m[q]'hqm).toNat := by
      have := E3.out (by omega)
      have e : m.size - 1 = q := by omega
      simpa [e] using this
    rw [hq1]
    clear hq1
    have HQ := hid hq
    clear hq
    go_loopw [4, 9, 10, 11, 12] (fun _ i _ _ _ wr => i = .int .i64 (q : Int) ∧ Below w.heap.size w wr) (fun _ _ _ _ _ _ => 0)
    case atStart => exact ⟨rfl, Below.refl _ _⟩
    case round =>
      obtain ⟨rfl, hb⟩ := hrel
      by_cases hlt : q < s.size
      · have hb1 := hA.out q hlt
        have hne : ((((s[q]'hlt).toNat : Int) != ((m[q]'hqm).toNat : Int))) = true := by
          rw [bne_iff_ne]; omega
        have hq2 : ((q : Int) + 1).toNat = q + 1 := by omega
        have hq3 : 0 ≤ (q : Int) + 1 := by omega
        have hq4 : (q : Int) + 1 ≤ s.size := by omega
        have hq5 : IntKind.i64.wrap ((q : Int) + 1) = (q : Int) + 1 := IntWalk.i64_in _ (by omega)
        go_wp2
        go_step3
        go_wp2
        go_quiet (fail)
        have hb3 := below_drewN' hb nq
        clear hb
        generalize wr.drewN nq = w3 at *
        have hix : Lib.indexByte (s.extract (q + 1) s.size).data.toList ((m[q]'hqm).toNat : Int).toNat.toUInt8 = -1 := by
          apply indexByte_absent
          intro b hb hbc
          have hm := mem_extract hb
          obtain ⟨i, hi, he⟩ := List.getElem_of_mem hm
          have hi' : i < s.size := by simpa using hi
          have h3 := hA.out i hi'
          have h4 : s[i]'hi' = b := by rw [← he]; rfl
          rw [h4, hbc] at h3
          simp at h3
          omega
        have hcall : ∀ W, Calls Tryd.prog 46 #[.string (s.extract (q + 1) s.size), .int .u8 ((m[q]'hqm).toNat : Int)] W fun e w' => e = .returned (.int .i64 (-1)) ∧ w' = W := fun W => by
          have := Tryd.strings_IndexByte (s.extract (q + 1) s.size) ((m[q]'hqm).toNat : Int) W
          rw [hix] at this
          exact this
        clear hix
        go_wp2
        go_quiet ((go_at_call 46; exact Calls.quiet_of_same (hcall _)))
        go_wp2
        simp +zetaDelta only [go_sem]
        go_ret
        exact ⟨rfl, below_drewN' hb3 _⟩
      · go_wp2
        rw [Exit.noGoto_ret]
        go_ret
        exact ⟨rfl, hb⟩
  | false =>
    go_enter Tryd.func61, Tryd.ntmps61
    go_wp2_with (go_at_call 69; refine (same (Tryd.utf8_ValidRune _ _)).mono ?_; rintro e w' ⟨rfl, rfl⟩)
    go_ret
    exact ⟨rfl, Below.refl _ _⟩

theorem nameChars_ascii : ∀ i (h : i < nameChars.size), (nameChars[i]'h).toNat < 128 := by decide

theorem containsRune_high (r : Int) (h0 : 128 ≤ r) (h1 : r ≤ 2147483647) (w : World) :
    Calls Tryd.prog 47 #[.string nameChars, .int .i32 r] w fun e w' => e = .returned (.bool false) ∧ Below w.heap.size w w' := by
  by_cases hx : r = 65533
  · subst hx
    go_enter Tryd.func47, Tryd.ntmps47
    go_wp2_with (go_at_call 61; refine (indexRune_err _ nameChars_ascii _).mono ?_; rintro e w' ⟨rfl, hb⟩)
    go_ret
    exact ⟨rfl, hb⟩
  · have hx1 : (r == 65533) = false := by simp [hx]
    clear hx
    go_enter Tryd.func47, Tryd.ntmps47
    go_wp2_with (go_at_call 61; refine (indexRune_high _ nameChars_ascii _ h0 h1 hx1 _).mono ?_; rintro e w' ⟨rfl, hb⟩)
    go_ret
    exact ⟨rfl, hb⟩

/-- A byte that may stand in a name. -/
def nameByte (b : UInt8) : Bool := (65 ≤ b && b ≤ 90) || (97 ≤ b && b ≤ 122) || b == 95 || b == 36 || (48 ≤ b && b ≤ 57)
def digitByte (b : UInt8) : Bool := 48 ≤ b && b ≤ 57
def isNameL (l : List UInt8) : Bool := match l with
  | [] => false
  | b :: _ => decide (l.length ≤ 64) && !digitByte b && l.all nameByte
def isName (s : ByteArray) : Bool := isNameL s.data.toList

theorem chars_name (b : UInt8) (h : b.toNat < 128) : decide (0 ≤ Lib.indexByte nameChars.data.toList ((b.toNat : Int).toNat.toUInt8)) = nameByte b := by
  have : ∀ n : Fin 128, decide (0 ≤ Lib.indexByte nameChars.data.toList (((n.val : Nat) : Int).toNat.toUInt8)) = nameByte (UInt8.ofNat n.val) := by decide +kernel
  have h2 := this ⟨b.toNat, h⟩
  simpa using h2
theorem name_ascii (b : UInt8) (h : ¬ b.toNat < 128) : nameByte b = false := by
  have h1 : ∀ n : Nat, n < 123 → ¬ b ≤ UInt8.ofNat n := by
    intro n hn hb
    have := UInt8.le_iff_toNat_le.1 hb
    simp at this
    omega
  have h2 : ∀ n : Nat, n < 123 → (b == UInt8.ofNat n) = false := by
    intro n hn
    rw [beq_eq_false_iff_ne]
    rintro rfl
    simp at h
    omega
  simp only [nameByte]
  have a1 := h1 90 (by omega); have a2 := h1 122 (by omega); have a3 := h1 57 (by omega)
  have a4 := h2 95 (by omega); have a5 := h2 36 (by omega)
  simp at a1 a2 a3 a4 a5
  simp [a1, a2, a3, a4, a5]

end Go.Proofs.YtcaepnbamnicmaaDoor
