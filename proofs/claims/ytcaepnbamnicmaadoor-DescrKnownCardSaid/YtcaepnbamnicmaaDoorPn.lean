/- Names: how a name answers when it is cut or grown. -/
import Derived.Test.YtcaepnbamnicmaaDoorDc
namespace Go.Proofs.YtcaepnbamnicmaaDoor

theorem isName_iff (s : ByteArray) : isName s = true ↔ 0 < s.size ∧ s.size ≤ 64 ∧ (∀ b, s.data.toList.head? = some b → digitByte b = false) ∧ s.data.toList.all nameByte = true := by
  unfold isName
  rw [← dataLen]
  cases h : s.data.toList with
  | nil => simp [isNameL]
  | cons a l => simp [isNameL, and_assoc]

theorem isName_more {s : ByteArray} (h : isName s = true) (b : UInt8) (hb : nameByte b = true) : isName (s ++ ⟨#[b]⟩) = decide (s.size < 64) := by
  rw [Bool.eq_iff_iff, decide_eq_true_eq, isName_iff]
  rw [isName_iff] at h
  obtain ⟨h0, h1, h2, h3⟩ := h
  have e : (s ++ ⟨#[b]⟩).data.toList = s.data.toList ++ [b] := by simp
  have z : (s ++ ⟨#[b]⟩).size = s.size + 1 := by rw [ByteArray.size_append]; rfl
  rw [e, z]
  constructor
  · intro h; omega
  · intro h
    refine ⟨by omega, by omega, fun c hc => h2 c ?_, ?_⟩
    · rw [← hc, List.head?_append]
      rw [toList_cons s h0]; rfl
    · rw [List.all_append, h3, List.all_cons, hb]; rfl

theorem isName_ahead {s : ByteArray} (h : isName s = true) (b : UInt8) (hb : nameByte b = true) (hd : digitByte b = false) : isName (⟨#[b]⟩ ++ s) = decide (s.size < 64) := by
  rw [Bool.eq_iff_iff, decide_eq_true_eq, isName_iff]
  rw [isName_iff] at h
  obtain ⟨h0, h1, h2, h3⟩ := h
  have e : ((⟨#[b]⟩ : ByteArray) ++ s).data.toList = b :: s.data.toList := by simp
  have z : ((⟨#[b]⟩ : ByteArray) ++ s).size = s.size + 1 := by rw [ByteArray.size_append, Nat.add_comm]; rfl
  rw [e, z]
  constructor
  · intro h; omega
  · intro h
    refine ⟨by omega, by omega, fun c hc => ?_, ?_⟩
    · obtain rfl := Option.some.inj hc; exact hd
    · rw [List.all_cons, h3, hb]; rfl

theorem isName_digit (s : ByteArray) (b : UInt8) (hd : digitByte b = true) : isName (⟨#[b]⟩ ++ s) = false := by
  rw [Bool.eq_false_iff]
  intro h
  rw [isName_iff] at h
  have e : ((⟨#[b]⟩ : ByteArray) ++ s).data.toList = b :: s.data.toList := by simp
  rw [e] at h
  have := h.2.2.1 b rfl
  rw [hd] at this; cases this

theorem isName_bad (s : ByteArray) (b : UInt8) (hb : nameByte b = false) : isName (s ++ ⟨#[b]⟩) = false := by
  rw [Bool.eq_false_iff]
  intro h
  rw [isName_iff] at h
  have e : (s ++ ⟨#[b]⟩).data.toList = s.data.toList ++ [b] := by simp
  rw [e, List.all_append, List.all_cons, hb] at h
  simp at h

theorem isName_less {s : ByteArray} (h : isName s = true) (n : Nat) (h0 : 0 < n) (h1 : n ≤ s.size) : isName (s.extract 0 n) = true := by
  rw [isName_iff] at h ⊢
  obtain ⟨ha, hb, hc, hd⟩ := h
  have e : (s.extract 0 n).data.toList = s.data.toList.take n := by simp
  have z : (s.extract 0 n).size = n := by rw [ByteArray.size_extract]; omega
  rw [e, z]
  refine ⟨h0, by omega, fun c hc' => hc c ?_, ?_⟩
  · rw [List.head?_take] at hc'
    rw [if_neg (by omega)] at hc'
    exact hc'
  · rw [List.all_eq_true] at hd ⊢
    exact fun x hx => hd x (List.mem_of_mem_take hx)
end Go.Proofs.YtcaepnbamnicmaaDoor
