/- A set's methods: what stands above. -/
import Derived.Test.YtlihpmhnlooapaaDoorMh
namespace Go.Proofs.YtlihpmhnlooapaaDoor
open Go.RowKit Go.Proofs.YtlihpmhnlooapaaDoorW.PrintWords Go.Maps Go.WideMaps

/-- All above a class, as the plain law has it. -/
def aboveOf (L : List Cl) (i : Nat) : List Nat := Link.aboveL L.length (supF (supsL L L.length)) (fsF (facesL L L.length)) i
def commonOf (L : List Cl) (a b : Nat) : Int := Link.commonL L.length (supF (supsL L L.length)) a b
theorem fold_fit {N : Nat} {L : List Cl} {S : List Int} {F : List (List Int)} (G : GoodSet N L S F) (d : Nat) : ∀ (f : Nat) (out : List Nat), f < N → Fit N out → Fit N (Link.addF (fsF F) d out f) := by
  induction d with
  | zero => intro f out _ h; exact h
  | succ d ih =>
    intro f out hf h
    simp only [Link.addF]
    split
    · exact h
    · rename_i hin
      have key : ∀ (l : List Nat) (out : List Nat), (∀ g ∈ l, g ∈ fsF F f) → Fit N out → Fit N (l.foldl (Link.addF (fsF F) d) out) := by
        intro l
        induction l with
        | nil => intro out _ h; exact h
        | cons a l ihl => intro out hl h; exact ihl _ (fun g hg => hl g (List.mem_cons_of_mem _ hg)) (ih a out (G.fs_lt f hf a (hl a List.mem_cons_self)) h)
      exact key _ _ (fun g hg => hg) (h.put hf hin)
theorem above_fit {N : Nat} {L : List Cl} {S : List Int} {F : List (List Int)} (G : GoodSet N L S F) {i : Nat} (hi : i < N) : Fit N (Link.aboveL N (supF S) (fsF F) i) := by
  unfold Link.aboveL
  have inner : ∀ k, k < N → ∀ (l : List Nat) (out : List Nat), (∀ g ∈ l, g ∈ fsF F k) → Fit N out → Fit N (l.foldl (Link.addF (fsF F) (N + 2)) out) := by
    intro k hk l
    induction l with
    | nil => intro out _ h; exact h
    | cons a l ihl => intro out hl h; exact ihl _ (fun g hg => hl g (List.mem_cons_of_mem _ hg)) (fold_fit G (N + 2) a out (G.fs_lt k hk a (hl a List.mem_cons_self)) h)
  have outer : ∀ (l : List Nat) (out : List Nat), (∀ k ∈ l, k < N) → Fit N out → Fit N (l.foldl (fun out k => (fsF F k).foldl (Link.addF (fsF F) (N + 2)) out) out) := by
    intro l
    induction l with
    | nil => intro out _ h; exact h
    | cons a l ihl => intro out hl h; exact ihl _ (fun g hg => hl g (List.mem_cons_of_mem _ hg)) (inner a (hl a List.mem_cons_self) _ _ (fun g hg => hg) h)
  exact outer _ _ (fun k hk => G.chain_lt hi hk) (chain_fit G hi)
theorem aboveOf_fit {B p : Nat} {L : List Cl} {w : World} (h : IsSet B p L w) {i : Nat} (hi : i < L.length) : Fit L.length (aboveOf L i) := above_fit h.good hi
theorem ints_len (l : List Nat) : (ints l).length = l.length := by simp [ints]
theorem ints_contains (l : List Nat) (x : Nat) : (ints l).contains (x : Int) = decide (x ∈ l) := by
  rw [Bool.eq_iff_iff]
  simp [ints]
  constructor
  · rintro ⟨a, ha, e⟩
    have : a = x := by omega
    rw [← this]; exact ha
  · intro h
    exact ⟨x, h, rfl⟩
section
variable {B p : Nat} {L : List Cl} {w : World}
theorem hasQ (h : IsSet B p L w) (i : Int) (b : Bool) (hb : decide (0 ≤ i ∧ i < L.length) = b) : Calls Tryd.prog 73 #[.pointer (some ⟨p, 0, none⟩), .int .i64 i] w fun e w' => e = .returned (.bool b) ∧ w' = w := by
  rw [← hb]
  exact has_any h i
theorem inD {a N : Nat} (h : a < N) : decide ((0 : Int) ≤ a ∧ (a : Int) < N) = true := decide_eq_true ⟨by omega, by omega⟩
set_option maxRecDepth 100000 in
set_option maxHeartbeats 4000000 in
theorem above_in (h : IsSet B p L w) {i : Nat} (hi : i < L.length) : Calls Tryd.prog 24 #[.pointer (some ⟨p, 0, none⟩), .int .i64 i] w fun e w' => ∃ v, e = .returned v ∧ kI.R 3 w' w.heap.size (fun _ => True) v (ints (aboveOf L i)) ∧ Below w.heap.size w w' := by
  have HH := hid (hasIn h hi)
  obtain ⟨ga, ca, A, c, c4, d1, hlc, hC⟩ := h.aboveAt hi
  have hf := (aboveOf_fit h hi).len
  have hbig := h.big
  change w.cell? ⟨ga, i, none⟩ = some (.slice A (aboveOf L i).length c) at d1
  change kI.C w A (aboveOf L i).length (ints (aboveOf L i)) at hC
  have HC := hid (show Calls _ _ #[.slice A (aboveOf L i).length c] w _ from by
    have hC2 : (Kd.int .i64).C w A (ints (aboveOf L i)).length (ints (aboveOf L i)) := by rw [ints_len]; exact hC
    have := cloneInt_any A c (ints (aboveOf L i)) w hC2 (by rw [ints_len]; omega)
    rw [ints_len] at this
    exact this)
  have li : (i : Int) < L.length := by omega
  clear h hC hlc
  generalize aboveOf L i = ab at *
  generalize L.length = N at *
  go_enter Tryd.func24, Tryd.ntmps24
  go_wp2_with (first | (go_at_call 73; refine HH.out.mono ?_; rintro e w' ⟨rfl, rfl⟩) | (go_at_call 74; refine HC.out.mono ?_; rintro e w' ⟨v, rfl, hR, hB⟩; have HR := hid hR; have HB := hid hB; clear hR hB))
  go_ret
  exact ⟨v, rfl, HR.out, HB.out⟩
set_option maxRecDepth 100000 in
set_option maxHeartbeats 4000000 in
theorem above_out (h : IsSet B p L w) {i : Int} (hi : ¬ (0 ≤ i ∧ i < L.length)) : Calls Tryd.prog 24 #[.pointer (some ⟨p, 0, none⟩), .int .i64 i] w fun e w' => e = .returned (.slice none 0 0) ∧ w' = w := by
  have HH := hid (hasOut h hi)
  clear h hi
  go_enter Tryd.func24, Tryd.ntmps24
  go_wp2_with (go_at_call 73; refine HH.out.mono ?_; rintro e w' ⟨rfl, rfl⟩)
  go_ret
  exact ⟨rfl, rfl⟩
set_option maxRecDepth 100000 in
set_option maxHeartbeats 4000000 in
theorem below_in (h : IsSet B p L w) {a b : Nat} (ha : a < L.length) (hb : b < L.length) : Calls Tryd.prog 21 #[.pointer (some ⟨p, 0, none⟩), .int .i64 a, .int .i64 b] w fun e w' => e = .returned (.bool (decide (b ∈ aboveOf L a))) ∧ w' = w := by
  have HH := hid (hasQ h)
  have q1 := inD ha
  have q2 := inD hb
  obtain ⟨ga, ca, A, c, c4, d1, hlc, hC⟩ := h.aboveAt ha
  have hf := (aboveOf_fit h ha).len
  have hbig := h.big
  change w.cell? ⟨ga, a, none⟩ = some (.slice A (aboveOf L a).length c) at d1
  change kI.C w A (aboveOf L a).length (ints (aboveOf L a)) at hC
  have HC := hid (show Calls _ _ #[.slice A (aboveOf L a).length c, .int .i64 b] w _ from by
    have hC2 : kI.C w A (ints (aboveOf L a)).length (ints (aboveOf L a)) := by rw [ints_len]; exact hC
    have := contains_any A c (ints (aboveOf L a)) (b : Int) w hC2 (by rw [ints_len]; omega)
    rw [ints_len, ints_contains] at this
    exact this)
  have li : (a : Int) < L.length := by omega
  clear h hC hlc
  generalize decide (b ∈ aboveOf L a) = r at *
  generalize aboveOf L a = ab at *
  generalize L.length = N at *
  have Q1 := hid q1
  have Q2 := hid q2
  clear q1 q2
  go_enter Tryd.func21, Tryd.ntmps21
  go_wp2_with (first | (go_at_call 73; refine (HH.out _ _ (by first | exact Q1.out | exact Q2.out)).mono ?_; rintro e w' ⟨rfl, rfl⟩) | (go_at_call 75; refine HC.out.mono ?_; rintro e w' ⟨rfl, rfl⟩))
  go_ret
  exact ⟨rfl, rfl⟩
set_option maxRecDepth 100000 in
set_option maxHeartbeats 4000000 in
theorem below_out1 (h : IsSet B p L w) {a b : Int} (ha : ¬ (0 ≤ a ∧ a < L.length)) : Calls Tryd.prog 21 #[.pointer (some ⟨p, 0, none⟩), .int .i64 a, .int .i64 b] w fun e w' => e = .returned (.bool false) ∧ w' = w := by
  have HH := hid (hasQ h)
  have q1 := decide_eq_false ha
  clear h ha
  have Q1 := hid q1
  clear q1
  go_enter Tryd.func21, Tryd.ntmps21
  go_wp2_with (go_at_call 73; refine (HH.out _ _ Q1.out).mono ?_; rintro e w' ⟨rfl, rfl⟩)
  go_ret
  exact ⟨rfl, rfl⟩
set_option maxRecDepth 100000 in
set_option maxHeartbeats 4000000 in
theorem below_out2 (h : IsSet B p L w) {a : Nat} {b : Int} (ha : a < L.length) (hb : ¬ (0 ≤ b ∧ b < L.length)) : Calls Tryd.prog 21 #[.pointer (some ⟨p, 0, none⟩), .int .i64 a, .int .i64 b] w fun e w' => e = .returned (.bool false) ∧ w' = w := by
  have HH := hid (hasQ h)
  have q1 := inD ha
  have q2 := decide_eq_false hb
  clear h ha hb
  have Q1 := hid q1
  have Q2 := hid q2
  clear q1 q2
  go_enter Tryd.func21, Tryd.ntmps21
  go_wp2_with (go_at_call 73; refine (HH.out _ _ (by first | exact Q1.out | exact Q2.out)).mono ?_; rintro e w' ⟨rfl, rfl⟩)
  go_ret
  exact ⟨rfl, rfl⟩
end
end Go.Proofs.YtlihpmhnlooapaaDoor
