/- Contracts of descr's functions that read the table of signs. -/
import Derived.Test.YtcaepnbamnicmaaDoorDc
import Derived.StillTailTactics
namespace Go.Proofs.YtcaepnbamnicmaaDoor
open Go.RowKit

theorem ret_int {k : IntKind} {a b : Int} (h : a = b) : Ending.returned (.int k a) = .returned (.int k b) := by rw [h]

def signCells : Array Value := #[
  .int .i64 1, .string ⟨#[73]⟩, .string ⟨#[]⟩, .bool false, .int .i64 1, .int .i64 1,
  .int .i64 2, .string ⟨#[74]⟩, .string ⟨#[]⟩, .bool false, .int .i64 2, .int .i64 2,
  .int .i64 3, .string ⟨#[76]⟩, .string ⟨#[59]⟩, .bool true, .int .i64 1, .int .i64 3,
  .int .i64 4, .string ⟨#[91, 73]⟩, .string ⟨#[]⟩, .bool false, .int .i64 1, .int .i64 3,
  .int .i64 5, .string ⟨#[91, 74]⟩, .string ⟨#[]⟩, .bool false, .int .i64 1, .int .i64 3,
  .int .i64 6, .string ⟨#[91, 76]⟩, .string ⟨#[59]⟩, .bool true, .int .i64 1, .int .i64 3]

def Sg (w : World) : Prop := ∃ t fr, w.heap[0]? = some (.cells signCells t fr)

def bef : Nat → ByteArray
  | 0 => ⟨#[73]⟩ | 1 => ⟨#[74]⟩ | 2 => ⟨#[76]⟩ | 3 => ⟨#[91, 73]⟩ | 4 => ⟨#[91, 74]⟩ | _ => ⟨#[91, 76]⟩
def aft : Nat → ByteArray
  | 2 => ⟨#[59]⟩ | 5 => ⟨#[59]⟩ | _ => ⟨#[]⟩
def nmd : Nat → Bool
  | 2 => true | 5 => true | _ => false
def wds : Nat → Int
  | 1 => 2 | _ => 1
def vl : Nat → Int
  | 0 => 1 | 1 => 2 | _ => 3
def rowOf (j : Nat) : Array Value := #[.int .i64 (j + 1), .string (bef j), .string (aft j), .bool (nmd j), .int .i64 (wds j), .int .i64 (vl j)]
theorem idx_sign0 (w : World) : (Instr.index 61 (.agg signCells) (.int .i64 0)).run Tryd.prog w = .ok (.agg (rowOf 0)) w := by kernel_rfl
theorem idx_sign1 (w : World) : (Instr.index 61 (.agg signCells) (.int .i64 1)).run Tryd.prog w = .ok (.agg (rowOf 1)) w := by kernel_rfl
theorem idx_sign2 (w : World) : (Instr.index 61 (.agg signCells) (.int .i64 2)).run Tryd.prog w = .ok (.agg (rowOf 2)) w := by kernel_rfl
theorem idx_sign3 (w : World) : (Instr.index 61 (.agg signCells) (.int .i64 3)).run Tryd.prog w = .ok (.agg (rowOf 3)) w := by kernel_rfl
theorem idx_sign4 (w : World) : (Instr.index 61 (.agg signCells) (.int .i64 4)).run Tryd.prog w = .ok (.agg (rowOf 4)) w := by kernel_rfl
theorem idx_sign5 (w : World) : (Instr.index 61 (.agg signCells) (.int .i64 5)).run Tryd.prog w = .ok (.agg (rowOf 5)) w := by kernel_rfl
theorem idx_sign (j : Nat) (h : j < 6) (w : World) : (Instr.index 61 (.agg signCells) (.int .i64 j)).run Tryd.prog w = .ok (.agg (rowOf j)) w := by
  match j, h with
  | 0, _ => exact idx_sign0 w
  | 1, _ => exact idx_sign1 w
  | 2, _ => exact idx_sign2 w
  | 3, _ => exact idx_sign3 w
  | 4, _ => exact idx_sign4 w
  | 5, _ => exact idx_sign5 w
def findK (k : Int) : Int := if 1 ≤ k ∧ k ≤ 6 then k - 1 else -1

set_option maxHeartbeats 1000000 in
theorem find_any (k : Int) (w : World) (hS : Sg w) :
    Calls Tryd.prog 48 #[.int .i64 k] w fun e w' => e = .returned (.int .i64 (findK k)) ∧ Below w.heap.size w w' := by
  obtain ⟨t, fr, hg⟩ := hS
  go_enter Tryd.func48, Tryd.ntmps48
  go_wp2_with (refine wpList_load_row rfl 61 _ rfl 0 rfl t _ fr _ hg Tryd.underlying61 rfl (by kernel_rfl) ?_)
  clear hg
  go_loopw [6] (fun i wr => ∃ j : Nat, j ≤ 6 ∧ i = .int .i64 j ∧ (k < 1 ∨ (j : Int) < k) ∧ Below w.heap.size w wr) (fun i _ => 6 - (intOf i).toNat)
  case atStart => exact ⟨0, by omega, rfl, by omega, Below.refl _ _⟩
  case round =>
    obtain ⟨j, hj, rfl, hk, hb⟩ := hrel
    by_cases hlt : j < 6
    · have hi := fun w => idx_sign j hlt w
      unfold rowOf at hi
      go_wp2
      · have h1 : ((j : Int) + 1 == k) = true := by assumption
        simp at h1
        go_ret
        exact ⟨ret_int (by unfold findK; rw [if_pos (by omega)]; omega), hb.alloc hb.size _⟩
      · have h1 : ((j : Int) + 1 == k) = false := by assumption
        simp at h1
        exact ⟨⟨j + 1, by omega, by go_num, by omega, hb.alloc hb.size _⟩, by simp [intOf]; omega⟩
    · go_wp2
      go_ret
      exact ⟨ret_int (by unfold findK; rw [if_neg (by omega)]), hb⟩
theorem Sg.below {w w' : World} (h : Sg w) (h0 : 0 < w.heap.size) (hb : Below w.heap.size w w') : Sg w' := by
  obtain ⟨t, fr, hg⟩ := h
  exact ⟨t, fr, (hb.block 0 h0).trans hg⟩
theorem Sg.lt {w : World} (h : Sg w) : 0 < w.heap.size := by
  obtain ⟨t, fr, hg⟩ := h
  exact (Array.getElem?_eq_some_iff.1 hg).1
theorem Sg.alloc {w : World} (h : Sg w) (o : Obj) : Sg (w.alloc o) := h.below h.lt ((Below.refl _ _).alloc (Nat.le_refl _) _)
theorem Sg.drewN {w : World} (h : Sg w) (n : Nat) : Sg (w.drewN n) := h
theorem Sg.cells {w : World} (h : Sg w) (j : Nat) (v : Value) (hj : signCells[j]? = some v) : w.cell? ⟨0, j, none⟩ = some v := by
  obtain ⟨t, fr, hg⟩ := h
  simp [World.cell?, hg, hj]

/-- A type that may be. -/
structure Ty where
  k : Int
  n : ByteArray
def Ty.cells (t : Ty) : Array Value := #[.int .i64 t.k, .string t.n]
def tyOk (t : Ty) : Bool := if t.k = 3 ∨ t.k = 6 then isName t.n else decide (t.k = 1 ∨ t.k = 2 ∨ t.k = 4 ∨ t.k = 5) && decide (t.n.size = 0)

def errOf (b : Bool) : Int := if b then 0 else 2
theorem findK_out {k : Int} (h : ¬ (1 ≤ k ∧ k ≤ 6)) : findK k = -1 := by unfold findK; rw [if_neg h]
theorem cell_later' {w w' : World} (hb : Below w.heap.size w w') {a : Addr} {v : Value} (h : w.cell? a = some v) : w'.cell? a = some v :=
  (hb.cell (World.block_lt_of_cell? w a h)).trans h

set_option maxHeartbeats 1000000 in
theorem checkType_out (k : Int) (n : ByteArray) (w : World) (hS : Sg w) (hk : ¬ (1 ≤ k ∧ k ≤ 6)) :
    Calls Tryd.prog 21 #[.agg #[.int .i64 k, .string n]] w fun e w' => e = .returned (.int .i64 2) ∧ Below w.heap.size w w' := by
  have HS := hid hS
  have HK := hid hk
  clear hS hk
  go_enter Tryd.func21, Tryd.ntmps21
  go_wp2_with (go_at_call 48; refine (find_any _ _ (HS.out.alloc _)).mono ?_; rintro e w' ⟨rfl, hb⟩)
  rw [findK_out HK.out]
  go_quiet (fail)
  go_wp2
  go_ret
  exact ⟨rfl, below_drewN' (((Below.refl _ _).alloc (Nat.le_refl _) _).trans (hb.mono (by simp))) _⟩

set_option maxHeartbeats 1000000 in
theorem checkType_plain (k : Int) (j : Nat) (n : ByteArray) (w : World) (hS : Sg w) (hj : findK k = j) (hc : (j = 0 ∨ j = 1) ∨ j = 3 ∨ j = 4) :
    Calls Tryd.prog 21 #[.agg #[.int .i64 k, .string n]] w fun e w' => e = .returned (.int .i64 (errOf n.toList.isEmpty)) ∧ Below w.heap.size w w' := by
  have HS := hid hS
  have HJ := hid hj
  clear hS hj
  go_enter Tryd.func21, Tryd.ntmps21
  go_wp2_with (go_at_call 48; refine (find_any _ _ (HS.out.alloc _)).mono ?_; rintro e w' ⟨rfl, hb⟩)
  rw [HJ.out]
  have HS' := hid ((HS.out.alloc (.cells #[.int .i64 k, .string n] 23)).below (by simp) hb)
  have hn := cell_later' (a := ⟨w.heap.size, 1, none⟩) (v := .string n) hb (by simp)
  have hB : Below w.heap.size w w' := ((Below.refl _ _).alloc (Nat.le_refl _) _).trans (hb.mono (by simp))
  clear hb HJ
  rcases hc with (rfl | rfl) | rfl | rfl
  all_goals
    have hs3 : w'.cell? ⟨0, 3, none⟩ = some (.bool false) := HS'.out.cells 3 _ rfl
    have hs9 : w'.cell? ⟨0, 9, none⟩ = some (.bool false) := HS'.out.cells 9 _ rfl
    have hs21 : w'.cell? ⟨0, 21, none⟩ = some (.bool false) := HS'.out.cells 21 _ rfl
    have hs27 : w'.cell? ⟨0, 27, none⟩ = some (.bool false) := HS'.out.cells 27 _ rfl
    cases he : n.toList.isEmpty with
    | true =>
      go_quiet (fail)
      all_goals (try go_wp2)
      all_goals first | (rw [he] at *; contradiction) | (go_ret; exact ⟨by rw [he]; rfl, below_drewN' hB _⟩)
    | false =>
      go_quiet (fail)
      all_goals (try go_wp2)
      all_goals first | (rw [he] at *; contradiction) | (go_ret; exact ⟨by rw [he]; rfl, below_drewN' hB _⟩)

set_option maxHeartbeats 1000000 in
theorem checkType_named (k : Int) (j : Nat) (n : ByteArray) (w : World) (hS : Sg w) (hj : findK k = j) (hc : j = 2 ∨ j = 5) :
    Calls Tryd.prog 21 #[.agg #[.int .i64 k, .string n]] w fun e w' => e = .returned (.int .i64 (errOf (isName n))) ∧ Below w.heap.size w w' := by
  have HS := hid hS
  have HJ := hid hj
  clear hS hj
  go_enter Tryd.func21, Tryd.ntmps21
  go_wp2_with (go_at_call 48; refine (find_any _ _ (HS.out.alloc _)).mono ?_; rintro e w' ⟨rfl, hb⟩)
  rw [HJ.out]
  have HS' := hid ((HS.out.alloc (.cells #[.int .i64 k, .string n] 23)).below (by simp) hb)
  have hn := cell_later' (a := ⟨w.heap.size, 1, none⟩) (v := .string n) hb (by simp)
  have hB : Below w.heap.size w w' := ((Below.refl _ _).alloc (Nat.le_refl _) _).trans (hb.mono (by simp))
  clear hb HJ
  rcases hc with rfl | rfl
  all_goals
    have hs15 : w'.cell? ⟨0, 15, none⟩ = some (.bool true) := HS'.out.cells 15 _ rfl
    have hs33 : w'.cell? ⟨0, 33, none⟩ = some (.bool true) := HS'.out.cells 33 _ rfl
    cases he : n.toList.isEmpty with
    | true =>
      have hr : isName n = false := by
        rw [isEmpty_iff] at he
        have : n.data.toList = [] := List.eq_nil_of_length_eq_zero (by rw [dataLen]; simpa using he)
        unfold isName; rw [this]; rfl
      have HR := hid hr
      clear hr
      go_quiet (fail)
      all_goals (try go_wp2)
      all_goals first | (rw [he] at *; contradiction) | (go_ret; exact ⟨by rw [HR.out]; rfl, below_drewN' hB _⟩)
    | false =>
      go_still_tail 20, (by kernel_rfl)
      change wpList _ _ _ _ _ w'.drew
      go_wp2_with (go_at_call 17; refine (isName_any _ _).mono ?_; rintro e w2 ⟨rfl, hb2⟩)
      all_goals
        first
        | (have h2 : (!isName n) = true := by assumption
           go_ret
           exact ⟨by rw [Bool.not_eq_true'] at h2; rw [h2]; rfl, (below_drewN' hB 1).trans (hb2.mono hB.size)⟩)
        | (have h2 : (!isName n) = false := by assumption
           go_ret
           exact ⟨by rw [Bool.not_eq_false'] at h2; rw [h2]; rfl, (below_drewN' hB 1).trans (hb2.mono hB.size)⟩)

theorem checkType_any (t : Ty) (w : World) (hS : Sg w) :
    Calls Tryd.prog 21 #[.agg #[.int .i64 t.k, .string t.n]] w fun e w' => e = .returned (.int .i64 (errOf (tyOk t))) ∧ Below w.heap.size w w' := by
  obtain ⟨k, n⟩ := t
  simp only
  by_cases h : 1 ≤ k ∧ k ≤ 6
  · by_cases h3 : k = 3 ∨ k = 6
    · have e : tyOk ⟨k, n⟩ = isName n := by simp [tyOk, h3]
      rw [e]
      rcases h3 with rfl | rfl
      · exact checkType_named 3 2 n w hS rfl (.inl rfl)
      · exact checkType_named 6 5 n w hS rfl (.inr rfl)
    · have e : tyOk ⟨k, n⟩ = n.toList.isEmpty := by
        have h4 : k = 1 ∨ k = 2 ∨ k = 4 ∨ k = 5 := by omega
        simp only [tyOk, if_neg h3, decide_eq_true h4, Bool.true_and, isEmpty_iff]
      rw [e]
      have h4 : k = 1 ∨ k = 2 ∨ k = 4 ∨ k = 5 := by omega
      rcases h4 with rfl | rfl | rfl | rfl
      · exact checkType_plain 1 0 n w hS rfl (by simp)
      · exact checkType_plain 2 1 n w hS rfl (by simp)
      · exact checkType_plain 4 3 n w hS rfl (by simp)
      · exact checkType_plain 5 4 n w hS rfl (by simp)
  · have e : tyOk ⟨k, n⟩ = false := by
      simp only [tyOk]
      rw [if_neg (by omega), decide_eq_false (by omega)]
      rfl
    rw [e]
    exact checkType_out k n w hS h

end Go.Proofs.YtcaepnbamnicmaaDoor
