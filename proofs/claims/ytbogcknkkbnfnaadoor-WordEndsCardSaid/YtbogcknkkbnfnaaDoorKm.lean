/- The stable sort: what insertion and passes come to; the walk. -/
import Derived.Test.YtbogcknkkbnfnaaDoorKl
namespace Go.Proofs.YtbogcknkkbnfnaaDoor
open Go.RowKit Go.Proofs.YtbogcknkkbnfnaaDoorW.PrintWords

theorem insI_roll (d : List El) (a j : Nat) (hj : j < d.length) : ∀ (q t : Nat), q + t = j → a ≤ q → (t = 0 ∨ lt (d.getD j zEl) (d.getD q zEl) = true) → ∃ i, a ≤ i ∧ i ≤ j ∧ insI a (rollD d j t) q = rollD d j (j - i) ∧ (i = a ∨ lt (d.getD j zEl) (d.getD (i - 1) zEl) = false) ∧ (i = j ∨ lt (d.getD j zEl) (d.getD i zEl) = true) := by
  intro q
  induction q with
  | zero =>
    intro t ht ha hl
    refine ⟨0, by omega, by omega, ?_, .inl (by omega), ?_⟩
    · rw [insI, show t = j - 0 by omega]
    · rcases hl with h | h
      · exact .inl (by omega)
      · exact .inr h
  | succ q ih =>
    intro t ht ha hl
    have g1 : (rollD d j t).getD (q + 1) zEl = d.getD j zEl := by rw [rollD_getD d j t _ (by omega) hj, if_neg (by omega), if_pos (by omega)]
    have g2 : (rollD d j t).getD q zEl = d.getD q zEl := by rw [rollD_getD d j t _ (by omega) hj, if_neg (by omega), if_neg (by omega)]
    unfold insI
    rw [g1, g2]
    by_cases c : a < q + 1 ∧ lt (d.getD j zEl) (d.getD q zEl) = true
    · rw [if_pos c]
      have e : swp (rollD d j t) (q + 1) q = rollD d j (t + 1) := by rw [rollD, show j - t = q + 1 by omega, Nat.add_sub_cancel]
      rw [e]
      exact ih (t + 1) (by omega) (by omega) (.inr c.2)
    · rw [if_neg c]
      refine ⟨q + 1, ha, by omega, by rw [show t = j - (q + 1) by omega], ?_, ?_⟩
      · by_cases c1 : q + 1 = a
        · exact .inl c1
        · right
          rw [Nat.add_sub_cancel]
          cases e : lt (d.getD j zEl) (d.getD q zEl) with
          | false => rfl
          | true => exact absurd ⟨by omega, e⟩ c
      · rcases hl with h | h
        · exact .inl (by omega)
        · exact .inr h
theorem insI_law (a : Nat) (d : List El) (j : Nat) (hj : j < d.length) (ha : a ≤ j) : Mg d a j (j + 1) (insI a d j) := by
  obtain ⟨i, h1, h2, e, h3, h4⟩ := insI_roll d a j hj j 0 (by omega) ha (.inl rfl)
  rw [rollD] at e
  rw [e]
  exact Mg.last d a j i h1 h2 hj h3 h4
theorem insO_law (a : Nat) (d : List El) (k : Nat) (h : a + 1 + k ≤ d.length) : Win d (insO a d k) a (a + 1 + k) ∧ Srt (insO a d k) a (a + 1 + k) := by
  induction k with
  | zero => exact ⟨Win.refl _ _ _, fun x y _ _ _ => by omega⟩
  | succ k ih =>
    obtain ⟨w, s⟩ := ih (by omega)
    have m := insI_law a (insO a d k) (a + 1 + k) (by rw [insO_len]; omega) (by omega)
    unfold insO
    exact ⟨(w.widen (Nat.le_refl _) (by omega)).trans m.win, m.srt s (fun x y _ _ _ => by omega)⟩
theorem ins_law (a b : Nat) (d : List El) (hab : a ≤ b) (hb : b ≤ d.length) : Win d (insO a d (b - (a + 1))) a b ∧ Srt (insO a d (b - (a + 1))) a b := by
  by_cases h : a = b
  · subst h
    rw [show a - (a + 1) = 0 by omega, insO]
    exact ⟨Win.refl _ _ _, fun x y _ _ _ => by omega⟩
  · have := insO_law a d (b - (a + 1)) (by omega)
    rw [show a + 1 + (b - (a + 1)) = b by omega] at this
    exact this

/-- All blocks of bs are sorted. -/
def Blk (d : List El) (n bs : Nat) : Prop := ∀ j, Srt d (j * bs) (min (j * bs + bs) n)
/-- The first i blocks are sorted. -/
def Fst (d : List El) (bs i : Nat) : Prop := ∀ j, j < i → Srt d (j * bs) (j * bs + bs)
theorem mul_le (bs : Nat) {j i : Nat} (h : j < i) : j * bs + bs ≤ i * bs := by
  have := Nat.mul_le_mul_right bs (show j + 1 ≤ i from h)
  rwa [Nat.succ_mul] at this
theorem Fst.ins {d : List El} {bs i : Nat} (h : Fst d bs i) (hb : i * bs + bs ≤ d.length) : Fst (insO (i * bs) d (i * bs + bs - (i * bs + 1))) bs (i + 1) := by
  obtain ⟨w, s⟩ := ins_law (i * bs) (i * bs + bs) d (by omega) hb
  intro j hj
  by_cases e : j = i
  · subst e; exact s
  · exact w.srt (h j (by omega)) (.inl (mul_le bs (by omega)))
theorem Fst.last {d : List El} {bs i n : Nat} (h : Fst d bs i) (hi : i * bs ≤ n) (hn : n < i * bs + bs) (hb : n ≤ d.length) : Blk (insO (i * bs) d (n - (i * bs + 1))) n bs := by
  obtain ⟨w, s⟩ := ins_law (i * bs) n d hi hb
  intro j
  by_cases e : j < i
  · have := mul_le bs e
    rw [Nat.min_eq_left (by omega)]
    exact w.srt (h j e) (.inl this)
  · by_cases e2 : j = i
    · subst e2
      rw [Nat.min_eq_right (by omega)]
      exact s
    · have := mul_le bs (show i < j by omega)
      intro x y _ _ _
      omega
/-- A pass: the first i double blocks are sorted, the rest are as they were. -/
structure Pass (d : List El) (n bs i : Nat) : Prop where
  fst : Fst d (2 * bs) i
  rest : ∀ j, 2 * i ≤ j → Srt d (j * bs) (min (j * bs + bs) n)
theorem Pass.start {d : List El} {n bs : Nat} (h : Blk d n bs) : Pass d n bs 0 := ⟨fun j hj => by omega, fun j _ => h j⟩
theorem two_mul' (i bs : Nat) : 2 * i * bs = i * (2 * bs) := by rw [Nat.mul_comm 2 i, Nat.mul_assoc]
theorem two_mul1 (i bs : Nat) : (2 * i + 1) * bs = i * (2 * bs) + bs := by rw [Nat.succ_mul, two_mul']
theorem Pass.step {d d' : List El} {n bs i : Nat} (h : Pass d n bs i) (hn : i * (2 * bs) + 2 * bs ≤ n) (hb : 0 < bs) (m : Mg d (i * (2 * bs)) (i * (2 * bs) + bs) (i * (2 * bs) + 2 * bs) d') : Pass d' n bs (i + 1) := by
  refine ⟨fun j hj => ?_, fun j hj => ?_⟩
  · by_cases e : j = i
    · subst e
      have r0 := h.rest (2 * j) (Nat.le_refl _)
      have r1 := h.rest (2 * j + 1) (by omega)
      rw [two_mul'] at r0
      rw [two_mul1] at r1
      rw [Nat.min_eq_left (by omega)] at r0 r1
      rw [Nat.add_assoc, ← Nat.two_mul] at r1
      exact m.srt r0 r1
    · exact m.win.srt (h.fst j (by omega)) (.inl (mul_le _ (by omega)))
  · refine m.win.srt (h.rest j (by omega)) (.inr ?_)
    have := Nat.mul_le_mul_right bs hj
    rw [Nat.mul_add, Nat.add_mul, two_mul'] at this
    omega
theorem Pass.rest_far {n bs i j : Nat} (hn : n < i * (2 * bs) + 2 * bs) (hj : i < j) : n < j * (2 * bs) := by
  have := mul_le (2 * bs) hj
  omega
theorem Pass.done {d : List El} {n bs i : Nat} (h : Pass d n bs i) (hi : i * (2 * bs) ≤ n) (hn : n < i * (2 * bs) + 2 * bs) (hm : n ≤ i * (2 * bs) + bs) : Blk d n (2 * bs) := by
  intro j
  by_cases e : j < i
  · have := mul_le (2 * bs) e
    rw [Nat.min_eq_left (by omega)]
    exact h.fst j e
  · by_cases e2 : j = i
    · subst e2
      have r0 := h.rest (2 * j) (Nat.le_refl _)
      rw [two_mul', Nat.min_eq_right (by omega)] at r0
      rw [Nat.min_eq_right (by omega)]
      exact r0
    · have := Pass.rest_far hn (show i < j by omega)
      intro x y _ _ _
      omega
theorem Pass.last {d d' : List El} {n bs i : Nat} (h : Pass d n bs i) (hn : n < i * (2 * bs) + 2 * bs) (hm : i * (2 * bs) + bs < n) (m : Mg d (i * (2 * bs)) (i * (2 * bs) + bs) n d') : Blk d' n (2 * bs) := by
  intro j
  by_cases e : j < i
  · have := mul_le (2 * bs) e
    rw [Nat.min_eq_left (by omega)]
    exact m.win.srt (h.fst j e) (.inl this)
  · by_cases e2 : j = i
    · subst e2
      have r0 := h.rest (2 * j) (Nat.le_refl _)
      have r1 := h.rest (2 * j + 1) (by omega)
      rw [two_mul'] at r0
      rw [two_mul1] at r1
      rw [Nat.min_eq_left (by omega)] at r0
      rw [Nat.min_eq_right (by omega)] at r1
      rw [Nat.min_eq_right (by omega)]
      exact m.srt r0 r1
    · have := Pass.rest_far hn (show i < j by omega)
      intro x y _ _ _
      omega
theorem Blk.done {d : List El} {n bs : Nat} (h : Blk d n bs) (hn : n ≤ bs) : Srt d 0 n := by
  have := h 0
  rw [Nat.zero_mul, Nat.zero_add, Nat.min_eq_right hn] at this
  exact this
theorem stable_law {d d' : List El} {n : Nat} (w : Win d d' 0 n) (s : Srt d' 0 n) (hn : d.length = n) : d'.Perm d ∧ d'.Pairwise (fun x y => lt y x = false) := by
  refine ⟨w.perm, ?_⟩
  rw [List.pairwise_iff_getElem]
  intro i j hi hj hij
  have hl := w.len
  have := s i j (by omega) hij (by omega)
  simpa [List.getD, hi, hj] using this

set_option maxRecDepth 100000 in
set_option maxHeartbeats 8000000 in
theorem stable_any (g c : Nat) (tl : List Value) (d : List El) (N : Nat) (w0 w : World) (hW : SWr g tl w0 d w) (hN : d.length = N) (hl : N ≤ 1000000000) :
    Calls Tryd.prog 151 #[.slice (some ⟨g, 0, none⟩) N c, .int .i64 N, cmpV] w fun e w' => e = .returned (.tuple #[]) ∧ ∃ d', SWr g tl w0 d' w' ∧ d'.Perm d ∧ d'.Pairwise (fun x y => lt y x = false) := by
  have HN := hid hN
  clear hN
  unfold cmpV
  go_enter Tryd.func151, Tryd.ntmps151
  go_wp2_with fail
  go_loopw [7, 8] (fun i j wr => ∃ (q : Nat) (dq : List El), q * 20 ≤ N ∧ i = .int .i64 ((q * 20 : Nat) : Int) ∧ j = .int .i64 ((q * 20 + 20 : Nat) : Int) ∧ Hid (Fst dq 20 q ∧ Win d dq 0 N) ∧ SWr g tl w0 dq wr) (fun i _ _ => N + 1 - (intOf i).toNat)
  case atStart => exact ⟨0, d, by omega, rfl, rfl, ⟨fun j hj => by omega, Win.refl _ _ _⟩, hW⟩
  obtain ⟨q, dq, hq, rfl, rfl, hF, hW⟩ := hrel
  have HL := hid (hF.out.2.len.trans HN.out)
  obtain ⟨a, ha⟩ : ∃ a, q * 20 = a := ⟨_, rfl⟩
  rw [ha] at hq ⊢
  obtain ⟨b, hb⟩ : ∃ b, a + 20 = b := ⟨_, rfl⟩
  rw [hb]
  have hab : a ≤ b := by omega
  have HA := hid ha
  have HB := hid hb
  clear ha hb
  by_cases hlt : b ≤ N
  · go_wp2_with fail
    refine (insertion_any g c tl dq N a b w0 _ hW HL.out hab hlt (by omega)).mono ?_
    rintro e w1 ⟨rfl, hW1⟩
    have HF : Hid (Fst (insO a dq (b - (a + 1))) 20 (q + 1) ∧ Win d (insO a dq (b - (a + 1))) 0 N) := by
      rw [← HB.out, ← HA.out]
      refine ⟨hF.out.1.ins (by rw [HL.out, HA.out, HB.out]; exact hlt), hF.out.2.trans ?_⟩
      rw [HA.out, HB.out]
      exact (ins_law a b dq hab (by rw [HL.out]; exact hlt)).1.widen (by omega) hlt
    clear hF
    go_wp2
    go_roundw
    case rel => exact ⟨q + 1, _, by have := HA.out; have := HB.out; omega, by have := HA.out; have := HB.out; congr 1; omega, by have := HA.out; have := HB.out; congr 1; omega, HF, hW1⟩
    case measure => have := HB.out; simp [intOf]; omega
  · go_wp2_with fail
    refine (insertion_any g c tl dq N a N w0 _ hW HL.out hq (by omega) (by omega)).mono ?_
    rintro e w1 ⟨rfl, hW1⟩
    have HF : Hid (Blk (insO a dq (N - (a + 1))) N 20 ∧ Win d (insO a dq (N - (a + 1))) 0 N) := by
      have h1 := HA.out
      have h2 := HB.out
      rw [← HA.out]
      refine ⟨hF.out.1.last (by omega) (by omega) (by rw [HL.out]; omega), hF.out.2.trans ?_⟩
      rw [HA.out]
      exact (ins_law a N dq (by omega) (by rw [HL.out]; omega)).1.widen (by omega) (by omega)
    clear hF HL HA HB hW
    generalize insO a dq (N - (a + 1)) = d1 at *
    obtain ⟨wo, rfl⟩ : ∃ wo : World, wo = wr := ⟨_, rfl⟩
    go_wp2_with fail
    go_loopw [6, 7, 8, 9] (fun i _ _ _ wr => ∃ (bs : Nat) (dq : List El), 0 < bs ∧ bs ≤ 2000000000 ∧ i = .int .i64 (bs : Int) ∧ Hid (Blk dq N bs ∧ Win d dq 0 N) ∧ SWr g tl w0 dq wr) (fun i _ _ _ _ => N - (intOf i).toNat)
    case atStart => exact ⟨20, d1, by omega, by omega, rfl, HF, hW1⟩
    obtain ⟨bs, dq, hbs, hbs2, rfl, hF, hW⟩ := hrel
    by_cases hlt : bs < N
    · obtain ⟨B, hB⟩ : ∃ B, B = 2 * bs := ⟨_, rfl⟩
      have s1 : (2 : Int) * (bs : Int) = (B : Int) := by omega
      have s2 : (bs : Int) * 2 = (B : Int) := by omega
      have wB : IntKind.i64.wrap (B : Int) = (B : Int) := IntWalk.i64_in _ (by omega)
      have HB := hid hB
      have hbB : bs < B := by omega
      have hB2 : B ≤ 2000000000 := by omega
      obtain ⟨wo, rfl⟩ : ∃ wo : World, wo = wr := ⟨_, rfl⟩
      clear hB
      go_wp2_with fail
      go_loopw [7, 8] (fun i j wr => ∃ (q : Nat) (dr : List El), q * B ≤ N ∧ i = .int .i64 ((q * B : Nat) : Int) ∧ j = .int .i64 ((q * B + B : Nat) : Int) ∧ Hid (Pass dr N bs q ∧ Win d dr 0 N) ∧ SWr g tl w0 dr wr) (fun i _ _ => N + 1 - (intOf i).toNat)
      case atStart => exact ⟨0, dq, by omega, by simp, by simp, ⟨Pass.start hF.out.1, hF.out.2⟩, hW⟩
      obtain ⟨q, dr, hq, rfl, rfl, hP, hW⟩ := hrel
      have HL := hid (hP.out.2.len.trans HN.out)
      have HSU : Hid ((q + 1) * B = q * B + B) := Nat.succ_mul q B
      obtain ⟨a, ha⟩ : ∃ a, q * B = a := ⟨_, rfl⟩
      rw [ha] at hq HSU ⊢
      obtain ⟨b, hb⟩ : ∃ b, a + B = b := ⟨_, rfl⟩
      rw [hb] at HSU ⊢
      obtain ⟨m, hm⟩ : ∃ m, a + bs = m := ⟨_, rfl⟩
      have s3 : (a : Int) + (bs : Int) = (m : Int) := by omega
      have wm : IntKind.i64.wrap (m : Int) = (m : Int) := IntWalk.i64_in _ (by omega)
      have ham : a < m := by omega
      have hmb : m < b := by omega
      have HA := hid ha
      have HBB := hid hb
      have HMM := hid hm
      clear ha hb hm
      by_cases hlt : b ≤ N
      · go_wp2_with fail
        refine (symMerge_any g c tl dr N a m b w0 _ hW HL.out ham hmb hlt (by omega)).mono ?_
        rintro e w1 ⟨rfl, d2, hW1, hM⟩
        have HF2 : Hid (Pass d2 N bs (q + 1) ∧ Win d d2 0 N) := by
          refine ⟨hP.out.1.step (by rw [← HB.out, HA.out, HBB.out]; exact hlt) hbs (by rw [← HB.out, HA.out, HBB.out, HMM.out]; exact hM), hP.out.2.trans (hM.win.widen (by omega) hlt)⟩
        clear hP hM
        go_wp2_with fail
        go_roundw
        case rel => exact ⟨q + 1, d2, by rw [HSU.out]; exact hlt, by rw [HSU.out], by rw [HSU.out]; go_num, HF2, hW1⟩
        case measure => simp [intOf]; omega
      · obtain ⟨wo, rfl⟩ : ∃ wo : World, wo = wr := ⟨_, rfl⟩
        by_cases hmN : m < N
        · go_wp2_with fail
          refine (symMerge_any g c tl dr N a m N w0 _ hW HL.out ham hmN (by omega) (by omega)).mono ?_
          rintro e w1 ⟨rfl, d2, hW1, hM⟩
          have HF2 : Hid (Blk d2 N B ∧ Win d d2 0 N) := by
            rw [HB.out]
            have h1 := HBB.out
            refine ⟨hP.out.1.last (by rw [← HB.out, HA.out, HBB.out]; omega) (by rw [← HB.out, HA.out, HMM.out]; exact hmN) (by rw [← HB.out, HA.out, HMM.out]; exact hM), hP.out.2.trans (hM.win.widen (by omega) (by omega))⟩
          clear hP hM
          go_wp2_with fail
          go_roundw
          case rel => exact ⟨B, d2, by omega, by omega, rfl, HF2, hW1⟩
          case measure => simp [intOf]; omega
        · have HF2 : Hid (Blk dr N B ∧ Win d dr 0 N) := by
            have h1 := HBB.out
            have h2 := hP.out.1.done (by rw [← HB.out, HA.out]; exact hq) (by rw [← HB.out, HA.out, HBB.out]; omega) (by rw [← HB.out, HA.out, HMM.out]; omega)
            rw [← HB.out] at h2
            exact ⟨h2, hP.out.2⟩
          clear hP
          go_wp2_with fail
          go_roundw
          case rel => exact ⟨B, dr, by omega, by omega, rfl, HF2, hW⟩
          case measure => simp [intOf]; omega
    · have HR := hid (stable_law hF.out.2 (hF.out.1.done (by omega)) HN.out)
      go_wp2
      go_end0
      exact ⟨rfl, dq, hW, HR.out⟩
theorem sortStable_any (g c : Nat) (tl : List Value) (d : List El) (N : Nat) (w0 w : World) (hW : SWr g tl w0 d w) (hN : d.length = N) (hl : N ≤ 1000000000) :
    Calls Tryd.prog 124 #[.slice (some ⟨g, 0, none⟩) N c, cmpV] w fun e w' => e = .returned (.tuple #[]) ∧ ∃ d', SWr g tl w0 d' w' ∧ d'.Perm d ∧ d'.Pairwise (fun x y => lt y x = false) := by
  have H : Hid (∀ W, SWr g tl w0 d W → Calls Tryd.prog 151 #[.slice (some ⟨g, 0, none⟩) N c, .int .i64 N, cmpV] W fun e w' => e = .returned (.tuple #[]) ∧ ∃ d', SWr g tl w0 d' w' ∧ d'.Perm d ∧ d'.Pairwise (fun x y => lt y x = false)) := fun W h => stable_any g c tl d N w0 W h hN hl
  clear hN
  unfold cmpV at *
  go_enter Tryd.func124, Tryd.ntmps124
  go_wp2_with fail
  refine (H.out _ hW).mono ?_
  rintro e w1 ⟨rfl, d2, hW1, hM⟩
  have HM := hid hM
  clear hM
  go_wp2
  go_end0
  exact ⟨rfl, d2, hW1, HM.out⟩
end Go.Proofs.YtbogcknkkbnfnaaDoor
