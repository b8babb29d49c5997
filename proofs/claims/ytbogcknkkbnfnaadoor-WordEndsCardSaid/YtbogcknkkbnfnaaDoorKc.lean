/- cmp.Compare at strings. -/
import Derived.Test.YtbogcknkkbnfnaaDoorKb
import Derived.WalkKit
import Derived.WalkSpells
namespace Go.Proofs.YtbogcknkkbnfnaaDoor
open Go.RowKit Go.Proofs.YtbogcknkkbnfnaaDoorW.PrintWords

theorem strNe (s : ByteArray) : (s.toList == s.toList) = true := by simp
theorem run_gtr (t : TypeId) (a b : ByteArray) : binOp .gtr t (.string a) (.string b) = pure (.bool !(Op.bytesLess a.toList b.toList || a.toList == b.toList)) := by simp [binOp, Op.stringOp]
/-- How two texts stand. -/
def less (a b : ByteArray) : Bool := Op.bytesLess a.toList b.toList
theorem less_irrefl (l : List UInt8) : Op.bytesLess l l = false := by
  induction l with
  | nil => rfl
  | cons a l ih => simp [Op.bytesLess, ih]
theorem less_total (a b : List UInt8) : Op.bytesLess a b = false → Op.bytesLess b a = false → a = b := by
  induction a generalizing b with
  | nil =>
    intro h1 _
    cases b with
    | nil => rfl
    | cons y b => simp [Op.bytesLess] at h1
  | cons x a ih =>
    intro h1 h2
    cases b with
    | nil => simp [Op.bytesLess] at h2
    | cons y b =>
      simp only [Op.bytesLess, Bool.or_eq_false_iff, decide_eq_false_iff_not, Bool.and_eq_false_iff, beq_eq_false_iff_ne] at h1 h2
      obtain ⟨h1a, h1b⟩ := h1
      obtain ⟨h2a, h2b⟩ := h2
      have e : x = y := by
        apply UInt8.toNat_inj.1
        have p := UInt8.lt_iff_toNat_lt (a := x) (b := y)
        have q := UInt8.lt_iff_toNat_lt (a := y) (b := x)
        have p1 : ¬ x.toNat < y.toNat := fun h => h1a (p.2 h)
        have q1 : ¬ y.toNat < x.toNat := fun h => h2a (q.2 h)
        omega
      subst e
      rw [ih b (h1b.resolve_left (by simp)) (h2b.resolve_left (by simp))]
theorem less_trans (a b c : List UInt8) : Op.bytesLess a b = true → Op.bytesLess b c = true → Op.bytesLess a c = true := by
  induction a generalizing b c with
  | nil =>
    intro h1 h2
    cases b with
    | nil => simp [Op.bytesLess] at h1
    | cons y b =>
      cases c with
      | nil => simp [Op.bytesLess] at h2
      | cons z c => rfl
  | cons x a ih =>
    intro h1 h2
    cases b with
    | nil => simp [Op.bytesLess] at h1
    | cons y b =>
      cases c with
      | nil => simp [Op.bytesLess] at h2
      | cons z c =>
        simp only [Op.bytesLess, Bool.or_eq_true, decide_eq_true_eq, Bool.and_eq_true, beq_iff_eq] at h1 h2 ⊢
        rcases h1 with h1 | ⟨rfl, h1⟩
        · rcases h2 with h2 | ⟨rfl, h2⟩
          · exact .inl (UInt8.lt_trans h1 h2)
          · exact .inl h1
        · rcases h2 with h2 | ⟨rfl, h2⟩
          · exact .inl h2
          · exact .inr ⟨rfl, ih b c h1 h2⟩
def cmpL (a b : ByteArray) : Int := if less a b then -1 else if a.toList == b.toList then 0 else 1
theorem isNaN_no (s : ByteArray) (w : World) :
    Calls Tryd.prog 152 #[.string s] w fun e w' => e = .returned (.bool false) ∧ w' = w := by
  have h := strNe s
  go_enter Tryd.func152, Tryd.ntmps152
  go_wp2
  go_ret
  exact ⟨rfl, rfl⟩
set_option maxHeartbeats 1000000 in
theorem compare_any (a b : ByteArray) (w : World) :
    Calls Tryd.prog 126 #[.string a, .string b] w fun e w' => e = .returned (.int .i64 (cmpL a b)) ∧ w' = w := by
  have HC : Hid (cmpL a b = if Op.bytesLess a.toList b.toList then -1 else if a.toList == b.toList then 0 else 1) := rfl
  have hg := fun t => run_gtr t a b
  cases h1 : Op.bytesLess a.toList b.toList with
  | true =>
    go_enter Tryd.func126, Tryd.ntmps126
    go_wp2_with (go_at_call 152; refine (isNaN_no _ _).mono ?_; rintro e w' ⟨rfl, rfl⟩)
    go_ret
    exact ⟨by rw [HC.out, h1]; rfl, rfl⟩
  | false =>
    cases h2 : (a.toList == b.toList) with
    | true =>
      go_enter Tryd.func126, Tryd.ntmps126
      go_wp2_with (go_at_call 152; refine (isNaN_no _ _).mono ?_; rintro e w' ⟨rfl, rfl⟩)
      go_ret
      exact ⟨by rw [HC.out, h1, h2]; rfl, rfl⟩
    | false =>
      go_enter Tryd.func126, Tryd.ntmps126
      go_wp2_with (go_at_call 152; refine (isNaN_no _ _).mono ?_; rintro e w' ⟨rfl, rfl⟩)
      go_ret
      exact ⟨by rw [HC.out, h1, h2]; rfl, rfl⟩
end Go.Proofs.YtbogcknkkbnfnaaDoor
