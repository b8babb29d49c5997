/- The insertion sort of a range. -/
import Derived.Test.YtbogcknkkbnfnaaDoorKg
import Derived.StillTailTactics
namespace Go.Proofs.YtbogcknkkbnfnaaDoor
open Go.RowKit Go.Proofs.YtbogcknkkbnfnaaDoorW.PrintWords

def lt (x y : El) : Bool := less x.n y.n
theorem cmp_lt {x y : El} (h : lt x y = true) : cmpL x.n y.n = -1 := by unfold cmpL; rw [show less x.n y.n = true from h]; rfl
theorem cmp_ge {x y : El} (h : lt x y = false) : cmpL x.n y.n = 0 ∨ cmpL x.n y.n = 1 := by
  unfold cmpL
  rw [show less x.n y.n = false from h]
  cases (x.n.toList == y.n.toList)
  · exact .inr rfl
  · exact .inl rfl
/-- The comparing function, as a value. -/
def cmpV : Value := .func (.func 125) #[] #[]
/-- What the comparison says. -/
def CmpI (x y : El) (c : Int) : Prop := (lt x y = true ∧ c < 0) ∨ (lt x y = false ∧ 0 ≤ c)
theorem cmpI (x y : El) : CmpI x y (cmpL x.n y.n) := by
  unfold CmpI
  cases h : lt x y with
  | true => rw [cmp_lt h]; exact .inl ⟨rfl, by omega⟩
  | false => rcases cmp_ge h with e | e <;> rw [e] <;> exact .inr ⟨rfl, by omega⟩
theorem named1_any' (x y : El) (w : World) :
    Calls Tryd.prog 125 #[.agg #[.slice x.p.a x.p.n x.p.c, .string x.n, .string x.s, .bool x.b, .slice x.f.a x.f.n x.f.c, .slice x.l.a x.l.n x.l.c, .slice x.m.a x.m.n x.m.c], .agg #[.slice y.p.a y.p.n y.p.c, .string y.n, .string y.s, .bool y.b, .slice y.f.a y.f.n y.f.c, .slice y.l.a y.l.n y.l.c, .slice y.m.a y.m.n y.m.c]] w
      fun e w' => e = .returned (.int .i64 (cmpL x.n y.n)) ∧ w' = (w.alloc (.cells x.cells.toArray 57)).alloc (.cells y.cells.toArray 57) := named1_any x y w
theorem SWr.cmp {g : Nat} {tl : List Value} {w0 W : World} {d : List El} (h : SWr g tl w0 d W) (o o' : Obj) (n : Nat) : SWr g tl w0 d (((W.drewN n).alloc o).alloc o') := ((h.drewN n).alloc o).alloc o'

/-- The inner loop: an element is let down. -/
def insI (a : Nat) : List El → Nat → List El
  | d, 0 => d
  | d, j + 1 => if a < j + 1 ∧ lt (d.getD (j + 1) zEl) (d.getD j zEl) = true then insI a (swp d (j + 1) j) j else d
theorem insI_len (a : Nat) (d : List El) (j : Nat) : (insI a d j).length = d.length := by
  induction j generalizing d with
  | zero => rfl
  | succ j ih =>
    unfold insI
    split
    · rw [ih, swp_len]
    · rfl
theorem insI_stop (a : Nat) (d : List El) : insI a d a = d := by
  cases a with
  | zero => rfl
  | succ a => unfold insI; rw [if_neg (by omega)]
def insO (a : Nat) (d : List El) : Nat → List El
  | 0 => d
  | k + 1 => insI a (insO a d k) (a + 1 + k)
theorem insO_len (a : Nat) (d : List El) (k : Nat) : (insO a d k).length = d.length := by
  induction k with
  | zero => rfl
  | succ k ih => unfold insO; rw [insI_len, ih]

set_option maxRecDepth 100000 in
set_option maxHeartbeats 4000000 in
theorem insertion_any (g c : Nat) (tl : List Value) (d : List El) (N a b : Nat) (w0 w : World) (hW : SWr g tl w0 d w) (hN : d.length = N) (hab : a ≤ b) (hb : b ≤ N) (hl : N ≤ 4611686018427387903) :
    Calls Tryd.prog 163 #[.slice (some ⟨g, 0, none⟩) N c, .int .i64 a, .int .i64 b, cmpV] w fun e w' => e = .returned (.tuple #[]) ∧ SWr g tl w0 (insO a d (b - (a + 1))) w' := by
  have HN := hid hN
  clear hN
  unfold cmpV
  go_enter Tryd.func163, Tryd.ntmps163
  go_wp2
  go_loopw [8] (fun i wr => ∃ k : Nat, a + 1 + k ≤ b + 1 ∧ (k = 0 ∨ a + 1 + k ≤ b) ∧ i = .int .i64 ((a + 1 + k : Nat) : Int) ∧ SWr g tl w0 (insO a d k) wr) (fun i _ => b + 1 - (intOf i).toNat)
  case atStart => exact ⟨0, by omega, .inl rfl, by go_num, hW⟩
  obtain ⟨k, hk, hk0, rfl, hW⟩ := hrel
  by_cases hlt : a + 1 + k < b
  · have HL := hid (insO_len a d k)
    have HI : Hid (insI a (insO a d k) (a + 1 + k) = insO a d (k + 1)) := rfl
    obtain ⟨T, hT⟩ : ∃ T, insO a d (k + 1) = T := ⟨_, rfl⟩
    rw [hT] at HI
    have HTE := hid hT
    clear hT
    generalize insO a d k = dk at *
    obtain ⟨i0, hi0⟩ : ∃ i0, i0 = a + 1 + k := ⟨_, rfl⟩
    rw [← hi0] at HI hlt hk ⊢
    have HI0 := hid hi0
    have hai : a < i0 := by omega
    clear hi0 hk0
    go_wp2_with fail
    go_loopw [9] (fun j ws => ∃ (q : Nat) (dq : List El), q ≤ i0 ∧ a ≤ q ∧ j = .int .i64 q ∧ Hid (insI a dq q = T ∧ dq.length = N) ∧ SWr g tl w0 dq ws) (fun j _ => (intOf j).toNat)
    case atStart => exact ⟨i0, dk, by omega, by omega, rfl, ⟨HI.out, by rw [HL.out, HN.out]⟩, hW⟩
    obtain ⟨q, dq, hq, haq, rfl, hI, hW⟩ := hrel
    by_cases hqa : a < q
    · obtain ⟨p, hp⟩ : ∃ p, q = p + 1 := ⟨q - 1, by omega⟩
      have hi : q < dq.length := by rw [hI.out.2]; omega
      have hj : p < dq.length := by omega
      have HIL := hid hI.out.2
      have HIS := hid hI.out.1
      obtain ⟨fa0, fa1, fa2, fa3, fa4, fa5, fa6⟩ := hW.row.fr q
      obtain ⟨fb0, fb1, fb2, fb3, fb4, fb5, fb6⟩ := hW.row.fr p
      obtain ⟨c0, c1, c2, c3, c4, c5, c6⟩ := hW.row.el q hi
      obtain ⟨e0, e1, e2, e3, e4, e5, e6⟩ := hW.row.el p hj
      have zg := hW.row.lt
      have t1 : (q : Int) - 1 = (p : Int) := by omega
      have wp1 : IntKind.i64.wrap (p : Int) = (p : Int) := IntWalk.i64_in _ (by omega)
      have l1 : (q : Int) < N := by omega
      have l2 : (p : Int) < N := by omega
      have HC := hid (cmpI (dq.getD q zEl) (dq.getD p zEl))
      have HSW : Hid (lt (dq.getD q zEl) (dq.getD p zEl) = true → insI a (swp dq q p) p = T) := fun h => by
        have := HIS.out
        rw [hp] at this h ⊢
        unfold insI at this
        rw [if_pos ⟨by omega, h⟩] at this
        exact this
      have HSN : Hid (lt (dq.getD q zEl) (dq.getD p zEl) = false → dq = T) := fun h => by
        have := HIS.out
        rw [hp] at this h
        unfold insI at this
        rw [if_neg (fun e => by rw [h] at e; cases e.2)] at this
        exact this
      have HWS : ∀ W, SWr g tl w0 dq W → SWr g tl w0 (swp dq q p) (putEl (putEl W g q (dq.getD p zEl)) g p (dq.getD q zEl)).drew := fun W h => h.swap q p hi hj
      have HP := hid hp
      obtain ⟨x, hx⟩ : ∃ x, dq.getD q zEl = x := ⟨_, rfl⟩
      obtain ⟨y, hy⟩ : ∃ y, dq.getD p zEl = y := ⟨_, rfl⟩
      have HXY := hid (And.intro hx hy)
      have HLQ := hid hi
      have HLP := hid hj
      have hpa : a ≤ p := by omega
      rw [hx] at c0 c1 c2 c3 c4 c5 c6
      rw [hy] at e0 e1 e2 e3 e4 e5 e6
      rw [hx, hy] at HC HSW HSN
      simp only [hx, hy] at HWS
      replace HWS := hid HWS
      clear hx hy
      clear hi hj hI HIS hp
      have HW := hid hW
      clear hW
      go_wp2_with fail
      go_still_tail 14, (by kernel_rfl)
      change wpList _ _ _ _ _ wr.drew
      go_wp2_with fail
      refine (named1_any' x y _).mono ?_
      intro e w1 hh
      obtain ⟨rfl, hw⟩ := hh
      have hW1 : SWr g tl w0 dq w1 := by rw [hw]; exact HW.out.cmp _ _ 1
      generalize cmpL x.n y.n = cc at *
      clear c0 c1 c2 c3 c4 c5 c6 e0 e1 e2 e3 e4 e5 e6 fa0 fa1 fa2 fa3 fa4 fa5 fa6 fb0 fb1 fb2 fb3 fb4 fb5 fb6 hw HW
      rcases HC.out with ⟨h1, h2⟩ | ⟨h1, h2⟩
      · have HT := hid (HSW.out h1)
        have b1 : decide (cc < 0) = true := by simp; omega
        have HW2 := hid (HWS.out w1 hW1)
        obtain ⟨k1, k2⟩ := HXY.out
        have zg1 := hW1.row.lt
        obtain ⟨fa0, fa1, fa2, fa3, fa4, fa5, fa6⟩ := hW1.row.fr q
        obtain ⟨fb0, fb1, fb2, fb3, fb4, fb5, fb6⟩ := hW1.row.fr p
        obtain ⟨c0, c1, c2, c3, c4, c5, c6⟩ := hW1.row.el q HLQ.out
        obtain ⟨e0, e1, e2, e3, e4, e5, e6⟩ := hW1.row.el p HLP.out
        rw [k1] at c0 c1 c2 c3 c4 c5 c6
        rw [k2] at e0 e1 e2 e3 e4 e5 e6
        clear h1 h2 k1 k2 hW1
        go_wp2_with fail
        go_region
        clear c0 c1 c2 c3 c4 c5 c6 e0 e1 e2 e3 e4 e5 e6 fa0 fa1 fa2 fa3 fa4 fa5 fa6 fb0 fb1 fb2 fb3 fb4 fb5 fb6
        go_wp2
        go_roundw
        case rel => exact ⟨p, _, by omega, hpa, rfl, ⟨HT.out, by rw [swp_len, HIL.out]⟩, HW2.out⟩
        case measure => have := HP.out; simp [intOf]; omega
      · obtain rfl := HSN.out h1
        have b1 : decide (cc < 0) = false := by simp; omega
        go_wp2
        exact ⟨⟨k + 1, by have := HI0.out; omega, .inr (by have := HI0.out; omega), by have := HI0.out; congr 1; omega, by rw [HTE.out]; exact hW1.drewN 0⟩, by simp [intOf]; omega⟩
    · have hq2 : q = a := by omega
      have hT : dq = T := by
        have := hI.out.1
        rw [hq2, insI_stop] at this
        exact this
      clear hI
      subst hT
      have gd : decide ((a : Int) < (q : Int)) = false := by simp; omega
      clear hq2
      go_wp2_with fail
      go_quiet (fail)
      go_wp2
      exact ⟨⟨k + 1, by have := HI0.out; omega, .inr (by have := HI0.out; omega), by have := HI0.out; congr 1; omega, by rw [HTE.out]; exact hW.drewN _⟩, by simp [intOf]; omega⟩
  · have hk2 : k = b - (a + 1) := by omega
    clear hk0
    go_wp2
    go_end0
    exact ⟨rfl, by rw [← hk2]; exact hW⟩
end Go.Proofs.YtbogcknkkbnfnaaDoor
