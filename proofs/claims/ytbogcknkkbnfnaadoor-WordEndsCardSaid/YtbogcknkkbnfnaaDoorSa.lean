/- Rows of words, and frames, compared: by the program and by the document. Printed by mksa.py. -/
import Derived.Test.YtbogcknkkbnfnaaDoorU3
import Derived.Test.YtbogcknkkbnfnaaDoorRw
import Derived.BigQuiet
namespace Go.Proofs.YtbogcknkkbnfnaaDoor
open Go.RowKit Go.Proofs.YtbogcknkkbnfnaaDoorW.PrintWords Go.Maps Go.WideMaps

theorem wd_ext {x y : Wd} (h1 : x.k = y.k) (h2 : x.tk = y.tk) (h3 : x.tn = y.tn) : x = y := by
  obtain ⟨k, tk, tn⟩ := x
  obtain ⟨k', tk', tn'⟩ := y
  simp only at h1 h2 h3
  subst h1 h2 h3
  rfl
def wdEq (x y : Wd) : Bool := decide (x.k = y.k) && (decide (x.tk = y.tk) && nmEq x.tn y.tn)
theorem wdEq_iff {x y : Wd} : wdEq x y = true ↔ x = y := by
  unfold wdEq
  rw [Bool.and_eq_true, Bool.and_eq_true, decide_eq_true_eq, decide_eq_true_eq, nmEq_iff]
  exact ⟨fun h => wd_ext h.1 h.2.1 h.2.2, fun h => by subst h; exact ⟨rfl, rfl, rfl⟩⟩
def sameW (a b : List Wd) : Bool := decide (a.length = b.length) && (List.range a.length).all fun i => wdEq (a.getD i zWd) (b.getD i zWd)
theorem sameW_len {a b : List Wd} (h : a.length ≠ b.length) : sameW a b = false := by unfold sameW; rw [decide_eq_false h]; rfl
theorem sameW_no {a b : List Wd} {i : Nat} (hi : i < a.length) (h : wdEq (a.getD i zWd) (b.getD i zWd) = false) : sameW a b = false := by
  unfold sameW
  rw [Bool.and_eq_false_iff]
  right
  rw [List.all_eq_false]
  exact ⟨i, by simpa using hi, by rw [h]; decide⟩
theorem sameW_yes {a b : List Wd} (hl : a.length = b.length) (h : ∀ i, i < a.length → wdEq (a.getD i zWd) (b.getD i zWd) = true) : sameW a b = true := by
  unfold sameW
  rw [decide_eq_true hl, Bool.true_and, List.all_eq_true]
  exact fun i hi => h i (by simpa using hi)
theorem sameW_iff {a b : List Wd} : sameW a b = true ↔ a = b := by
  constructor
  · intro h
    unfold sameW at h
    rw [Bool.and_eq_true, decide_eq_true_eq, List.all_eq_true] at h
    apply List.ext_getElem h.1
    intro i h1 h2
    have := wdEq_iff.1 (h.2 i (by simpa using h1))
    simpa [List.getD, h1, h2] using this
  · intro h
    subst h
    exact sameW_yes rfl (fun i _ => wdEq_iff.2 rfl)
set_option maxRecDepth 100000 in
set_option maxHeartbeats 400000 in
theorem equalWd_any (A1 A2 : Option Addr) (c1 c2 n m : Nat) (a b : List Wd) (w : World) (h1 : kWd.C w A1 n a) (h2 : kWd.C w A2 m b) (hb : n ≤ 5864062014805) (hb2 : m ≤ 5864062014805) :
    Calls Tryd.prog 56 #[.slice A1 n c1, .slice A2 m c2] w fun e w' => e = .returned (.bool (sameW a b)) ∧ Below w.heap.size w w' := by
  have H1 := hid h1
  have H2 := hid h2
  have N1 := hid h1.1
  have N2 := hid h2.1
  clear h1 h2
  by_cases hnm : n = m
  · have HL := hid hnm
    subst hnm
    go_enter Tryd.func56, Tryd.ntmps56
    go_wp2
    go_loopw [13] (fun iV wr => ∃ i : Nat, i ≤ n ∧ iV = .int .i64 i ∧ Hid (Below w.heap.size w wr) ∧ Hid (∀ j, j < i → wdEq (a.getD j zWd) (b.getD j zWd) = true)) (fun iV _ => n - (intOf iV).toNat)
    case atStart => exact ⟨0, by omega, rfl, Below.refl _ _, fun j hj => by omega⟩
    obtain ⟨i, hi, rfl, HB, HD⟩ := hrel
    by_cases hlt : i < n
    · obtain ⟨b1, o1, rfl⟩ := C_plain H1.out (by omega) (by decide)
      obtain ⟨b2, o2, rfl⟩ := C_plain H2.out (by omega) (by decide)
      obtain ⟨d0, d1, d2⟩ := wd_at (Kd.C_below H1.out HB.out) hlt
      obtain ⟨e0, e1, e2⟩ := wd_at (Kd.C_below H2.out HB.out) hlt
      have HIL := hid (show i < a.length by rw [N1.out]; exact hlt)
      obtain ⟨x, hx⟩ : ∃ x, a.getD i zWd = x := ⟨_, rfl⟩
      obtain ⟨y, hy⟩ : ∃ y, b.getD i zWd = y := ⟨_, rfl⟩
      rw [hx] at d0 d1 d2
      rw [hy] at e0 e1 e2
      have HX := hid hx
      have HY := hid hy
      clear hx hy
      have li : (i : Int) < n := by omega
      have l0 : (0 : Int) ≤ (i : Int) := by omega
      cases hxy : wdEq x y with
      | true =>
        have hxy2 := wdEq_iff.1 hxy
        subst hxy2
        have HDN := hid (show ∀ j, j < i + 1 → wdEq (a.getD j zWd) (b.getD j zWd) = true from fun j hj => by
          by_cases e : j = i
          · rw [e, HX.out, HY.out]; exact hxy
          · exact HD.out j (by omega))
        have q5 : (x.tn.toList == x.tn.toList) = true := by simp
        clear hxy
        go_wp2_with fail
        go_quiet (fail)
        go_wp2
        go_roundw
        case rel => exact ⟨i + 1, by omega, by go_num, hid (pw_below_drewN HB.out _), HDN⟩
        case measure => simp [intOf]; omega
      | false =>
        have HR := hid (show sameW a b = false from sameW_no HIL.out (by rw [HX.out, HY.out]; exact hxy))
        have q5 : (x.tn.toList == y.tn.toList) = nmEq x.tn y.tn := nm_beq x.tn y.tn
        unfold wdEq at hxy
        by_cases g1 : x.k = y.k
        · have q1 : (x.k == y.k) = true := by simp [g1]
          by_cases g2 : x.tk = y.tk
          · have q2 : (x.tk == y.tk) = true := by simp [g2]
            rw [decide_eq_true g1, decide_eq_true g2, Bool.true_and, Bool.true_and] at hxy
            rw [hxy] at q5
            clear hxy g1 g2
            go_wp2_with fail
            go_quiet (fail)
            go_wp2
            go_ret
            exact ⟨by rw [HR.out]; rfl, pw_below_drewN HB.out _⟩
          · have q2 : (x.tk == y.tk) = false := by simp [g2]
            clear hxy g1 g2 q5
            go_wp2_with fail
            go_quiet (fail)
            go_wp2
            go_ret
            exact ⟨by rw [HR.out]; rfl, pw_below_drewN HB.out _⟩
        · have q1 : (x.k == y.k) = false := by simp [g1]
          clear hxy g1 q5
          go_wp2_with fail
          go_quiet (fail)
          go_wp2
          go_ret
          exact ⟨by rw [HR.out]; rfl, pw_below_drewN HB.out _⟩
    · have HR := hid (show sameW a b = true from sameW_yes (by rw [N1.out, N2.out]) (fun j hj => HD.out j (by rw [N1.out] at hj; omega)))
      go_wp2
      go_ret
      exact ⟨by rw [HR.out]; rfl, HB.out⟩
  · have HR := hid (show sameW a b = false from sameW_len (by rw [N1.out, N2.out]; exact hnm))
    rw [HR.out]
    have q0 : ((n : Int) != m) = true := by simp; omega
    clear hnm
    go_enter Tryd.func56, Tryd.ntmps56
    go_wp2
    go_ret
    exact ⟨rfl, Below.refl _ _⟩
set_option maxRecDepth 100000 in
set_option maxHeartbeats 400000 in
theorem rWords_any (A1 A2 : Option Addr) (c1 c2 n m : Nat) (a b : List Wd) (w : World) (h1 : kWd.C w A1 n a) (h2 : kWd.C w A2 m b) (hb : n ≤ 5864062014805) (hb2 : m ≤ 5864062014805) :
    Calls Tryd.prog 134 #[.slice A1 n c1, .slice A2 m c2] w fun e w' => e = .returned (.bool (sameW a b)) ∧ Below w.heap.size w w' := by
  have H1 := hid h1
  have H2 := hid h2
  have N1 := hid h1.1
  have N2 := hid h2.1
  clear h1 h2
  by_cases hnm : n = m
  · have HL := hid hnm
    subst hnm
    go_enter Tryd.func134, Tryd.ntmps134
    go_wp2
    go_loopw [5] (fun iV wr => ∃ i : Nat, i ≤ n ∧ iV = .int .i64 i ∧ Hid (Below w.heap.size w wr) ∧ Hid (∀ j, j < i → wdEq (a.getD j zWd) (b.getD j zWd) = true)) (fun iV _ => n - (intOf iV).toNat)
    case atStart => exact ⟨0, by omega, rfl, Below.refl _ _, fun j hj => by omega⟩
    obtain ⟨i, hi, rfl, HB, HD⟩ := hrel
    by_cases hlt : i < n
    · obtain ⟨b1, o1, rfl⟩ := C_plain H1.out (by omega) (by decide)
      obtain ⟨b2, o2, rfl⟩ := C_plain H2.out (by omega) (by decide)
      obtain ⟨d0, d1, d2⟩ := wd_at (Kd.C_below H1.out HB.out) hlt
      obtain ⟨e0, e1, e2⟩ := wd_at (Kd.C_below H2.out HB.out) hlt
      have HIL := hid (show i < a.length by rw [N1.out]; exact hlt)
      obtain ⟨x, hx⟩ : ∃ x, a.getD i zWd = x := ⟨_, rfl⟩
      obtain ⟨y, hy⟩ : ∃ y, b.getD i zWd = y := ⟨_, rfl⟩
      rw [hx] at d0 d1 d2
      rw [hy] at e0 e1 e2
      have HX := hid hx
      have HY := hid hy
      clear hx hy
      have li : (i : Int) < n := by omega
      have l0 : (0 : Int) ≤ (i : Int) := by omega
      cases hxy : wdEq x y with
      | true =>
        have hxy2 := wdEq_iff.1 hxy
        subst hxy2
        have HDN := hid (show ∀ j, j < i + 1 → wdEq (a.getD j zWd) (b.getD j zWd) = true from fun j hj => by
          by_cases e : j = i
          · rw [e, HX.out, HY.out]; exact hxy
          · exact HD.out j (by omega))
        have q5 : (x.tn.toList == x.tn.toList) = true := by simp
        clear hxy
        go_wp2_with fail
        go_quiet (fail)
        go_wp2
        go_roundw
        case rel => exact ⟨i + 1, by omega, by go_num, hid (pw_below_drewN HB.out _), HDN⟩
        case measure => simp [intOf]; omega
      | false =>
        have HR := hid (show sameW a b = false from sameW_no HIL.out (by rw [HX.out, HY.out]; exact hxy))
        have q5 : (x.tn.toList == y.tn.toList) = nmEq x.tn y.tn := nm_beq x.tn y.tn
        unfold wdEq at hxy
        by_cases g1 : x.k = y.k
        · have q1 : (x.k == y.k) = true := by simp [g1]
          by_cases g2 : x.tk = y.tk
          · have q2 : (x.tk == y.tk) = true := by simp [g2]
            rw [decide_eq_true g1, decide_eq_true g2, Bool.true_and, Bool.true_and] at hxy
            rw [hxy] at q5
            clear hxy g1 g2
            go_wp2_with fail
            go_quiet (fail)
            go_wp2
            go_ret
            exact ⟨by rw [HR.out]; rfl, pw_below_drewN HB.out _⟩
          · have q2 : (x.tk == y.tk) = false := by simp [g2]
            clear hxy g1 g2 q5
            go_wp2_with fail
            go_quiet (fail)
            go_wp2
            go_ret
            exact ⟨by rw [HR.out]; rfl, pw_below_drewN HB.out _⟩
        · have q1 : (x.k == y.k) = false := by simp [g1]
          clear hxy g1 q5
          go_wp2_with fail
          go_quiet (fail)
          go_wp2
          go_ret
          exact ⟨by rw [HR.out]; rfl, pw_below_drewN HB.out _⟩
    · have HR := hid (show sameW a b = true from sameW_yes (by rw [N1.out, N2.out]) (fun j hj => HD.out j (by rw [N1.out] at hj; omega)))
      go_wp2
      go_ret
      exact ⟨by rw [HR.out]; rfl, HB.out⟩
  · have HR := hid (show sameW a b = false from sameW_len (by rw [N1.out, N2.out]; exact hnm))
    rw [HR.out]
    have q0 : ((n : Int) != m) = true := by simp; omega
    clear hnm
    go_enter Tryd.func134, Tryd.ntmps134
    go_wp2
    go_ret
    exact ⟨rfl, Below.refl _ _⟩
set_option maxRecDepth 100000 in
set_option maxHeartbeats 400000 in
theorem same_any (A1 A2 B1 B2 : Option Addr) (c1 c2 d1 d2 n1 n2 m1 m2 : Nat) (al sa bl sb : List Wd) (w : World) (h1 : kWd.C w A1 n1 al) (h2 : kWd.C w A2 n2 sa) (h3 : kWd.C w B1 m1 bl) (h4 : kWd.C w B2 m2 sb) (b1 : n1 ≤ 5864062014805) (b2 : n2 ≤ 5864062014805) (b3 : m1 ≤ 5864062014805) (b4 : m2 ≤ 5864062014805) :
    Calls Tryd.prog 17 #[.agg #[.slice A1 n1 c1, .slice A2 n2 c2], .agg #[.slice B1 m1 d1, .slice B2 m2 d2]] w fun e w' => e = .returned (.bool (sameW al bl && sameW sa sb)) ∧ Below w.heap.size w w' := by
  have HB2 := hid (below_alloc (below_alloc (Below.refl w.heap.size w) (.cells #[.slice A1 n1 c1, .slice A2 n2 c2] 40)) (.cells #[.slice B1 m1 d1, .slice B2 m2 d2] 40))
  have k1 := blk_alloc (blk_new w (.cells #[.slice A1 n1 c1, .slice A2 n2 c2] 40)) (.cells #[.slice B1 m1 d1, .slice B2 m2 d2] 40)
  have k2 := blk_new (w.alloc (.cells #[.slice A1 n1 c1, .slice A2 n2 c2] 40)) (.cells #[.slice B1 m1 d1, .slice B2 m2 d2] 40)
  rw [World.size_alloc] at k2
  have K1 := hid k1
  have K2 := hid k2
  obtain ⟨q1, hq1⟩ : ∃ x, sameW al bl = x := ⟨_, rfl⟩
  obtain ⟨q2, hq2⟩ : ∃ x, sameW sa sb = x := ⟨_, rfl⟩
  have HE := hid (fun (A A' : Option Addr) (c c' n n' : Nat) (v : Bool) (W : World) (hW : Below w.heap.size w W) (q : (A = A1 ∧ A' = B1 ∧ c = c1 ∧ c' = d1 ∧ n = n1 ∧ n' = m1 ∧ v = q1) ∨ (A = A2 ∧ A' = B2 ∧ c = c2 ∧ c' = d2 ∧ n = n2 ∧ n' = m2 ∧ v = q2)) => (show Calls Tryd.prog 56 #[.slice A n c, .slice A' n' c'] W fun e w' => e = .returned (.bool v) ∧ Below W.heap.size W w' from by
    rcases q with ⟨rfl, rfl, rfl, rfl, rfl, rfl, rfl⟩ | ⟨rfl, rfl, rfl, rfl, rfl, rfl, rfl⟩
    · have := equalWd_any A A' c c' n n' al bl W (Kd.C_below h1 hW) (Kd.C_below h3 hW) b1 b3
      rw [hq1] at this
      exact this
    · have := equalWd_any A A' c c' n n' sa sb W (Kd.C_below h2 hW) (Kd.C_below h4 hW) b2 b4
      rw [hq2] at this
      exact this))
  rw [hq1, hq2]
  clear h1 h2 h3 h4 hq1 hq2 k1 k2
  go_enter Tryd.func17, Tryd.ntmps17
  go_upto_region 1 with fail
  generalize (w.alloc (.cells #[.slice A1 n1 c1, .slice A2 n2 c2] 40)).alloc (.cells #[.slice B1 m1 d1, .slice B2 m2 d2] 40) = w1 at *
  have x0 := blk_cell K1.out 0
  have x1 := blk_cell K1.out 1
  have y0 := blk_cell K2.out 0
  have y1 := blk_cell K2.out 1
  have HX0 := hid (Below.refl w1.heap.size w1)
  cases q1 <;>
  · go_wp2_with (go_at_call 56; refine (HE.out _ _ _ _ _ _ _ _ (below_weaken HB2.out HB2.out.size (by first | exact HX1.out | exact HX0.out)) (by first | exact .inl ⟨rfl, rfl, rfl, rfl, rfl, rfl, rfl⟩ | exact .inr ⟨rfl, rfl, rfl, rfl, rfl, rfl, rfl⟩)).mono ?_; rintro e w' ⟨rfl, hB⟩; have HX1 := hid (bel_tr (a := w1) (by first | exact HX1.out | exact HX0.out) hB); clear hB; have u0 := blk_cell (blk_below K1.out HX1.out) 1; have u1 := blk_cell (blk_below K2.out HX1.out) 1)
    go_ret
    exact ⟨rfl, below_weaken HB2.out HB2.out.size HX1.out⟩
set_option maxRecDepth 100000 in
set_option maxHeartbeats 400000 in
theorem rSame_any (A1 A2 B1 B2 : Option Addr) (c1 c2 d1 d2 n1 n2 m1 m2 : Nat) (al sa bl sb : List Wd) (w : World) (h1 : kWd.C w A1 n1 al) (h2 : kWd.C w A2 n2 sa) (h3 : kWd.C w B1 m1 bl) (h4 : kWd.C w B2 m2 sb) (b1 : n1 ≤ 5864062014805) (b2 : n2 ≤ 5864062014805) (b3 : m1 ≤ 5864062014805) (b4 : m2 ≤ 5864062014805) :
    Calls Tryd.prog 105 #[.agg #[.slice A1 n1 c1, .slice A2 n2 c2], .agg #[.slice B1 m1 d1, .slice B2 m2 d2]] w fun e w' => e = .returned (.bool (sameW al bl && sameW sa sb)) ∧ Below w.heap.size w w' := by
  have HB2 := hid (below_alloc (below_alloc (Below.refl w.heap.size w) (.cells #[.slice A1 n1 c1, .slice A2 n2 c2] 40)) (.cells #[.slice B1 m1 d1, .slice B2 m2 d2] 40))
  have k1 := blk_alloc (blk_new w (.cells #[.slice A1 n1 c1, .slice A2 n2 c2] 40)) (.cells #[.slice B1 m1 d1, .slice B2 m2 d2] 40)
  have k2 := blk_new (w.alloc (.cells #[.slice A1 n1 c1, .slice A2 n2 c2] 40)) (.cells #[.slice B1 m1 d1, .slice B2 m2 d2] 40)
  rw [World.size_alloc] at k2
  have K1 := hid k1
  have K2 := hid k2
  obtain ⟨q1, hq1⟩ : ∃ x, sameW al bl = x := ⟨_, rfl⟩
  obtain ⟨q2, hq2⟩ : ∃ x, sameW sa sb = x := ⟨_, rfl⟩
  have HE := hid (fun (A A' : Option Addr) (c c' n n' : Nat) (v : Bool) (W : World) (hW : Below w.heap.size w W) (q : (A = A1 ∧ A' = B1 ∧ c = c1 ∧ c' = d1 ∧ n = n1 ∧ n' = m1 ∧ v = q1) ∨ (A = A2 ∧ A' = B2 ∧ c = c2 ∧ c' = d2 ∧ n = n2 ∧ n' = m2 ∧ v = q2)) => (show Calls Tryd.prog 134 #[.slice A n c, .slice A' n' c'] W fun e w' => e = .returned (.bool v) ∧ Below W.heap.size W w' from by
    rcases q with ⟨rfl, rfl, rfl, rfl, rfl, rfl, rfl⟩ | ⟨rfl, rfl, rfl, rfl, rfl, rfl, rfl⟩
    · have := rWords_any A A' c c' n n' al bl W (Kd.C_below h1 hW) (Kd.C_below h3 hW) b1 b3
      rw [hq1] at this
      exact this
    · have := rWords_any A A' c c' n n' sa sb W (Kd.C_below h2 hW) (Kd.C_below h4 hW) b2 b4
      rw [hq2] at this
      exact this))
  rw [hq1, hq2]
  clear h1 h2 h3 h4 hq1 hq2 k1 k2
  go_enter Tryd.func105, Tryd.ntmps105
  go_upto_region 1 with fail
  generalize (w.alloc (.cells #[.slice A1 n1 c1, .slice A2 n2 c2] 40)).alloc (.cells #[.slice B1 m1 d1, .slice B2 m2 d2] 40) = w1 at *
  have x0 := blk_cell K1.out 0
  have x1 := blk_cell K1.out 1
  have y0 := blk_cell K2.out 0
  have y1 := blk_cell K2.out 1
  have HX0 := hid (Below.refl w1.heap.size w1)
  cases q1 <;>
  · go_wp2_with (go_at_call 134; refine (HE.out _ _ _ _ _ _ _ _ (below_weaken HB2.out HB2.out.size (by first | exact HX1.out | exact HX0.out)) (by first | exact .inl ⟨rfl, rfl, rfl, rfl, rfl, rfl, rfl⟩ | exact .inr ⟨rfl, rfl, rfl, rfl, rfl, rfl, rfl⟩)).mono ?_; rintro e w' ⟨rfl, hB⟩; have HX1 := hid (bel_tr (a := w1) (by first | exact HX1.out | exact HX0.out) hB); clear hB; have u0 := blk_cell (blk_below K1.out HX1.out) 1; have u1 := blk_cell (blk_below K2.out HX1.out) 1)
    go_ret
    exact ⟨rfl, below_weaken HB2.out HB2.out.size HX1.out⟩
set_option maxRecDepth 100000 in
set_option maxHeartbeats 4000000 in
theorem list_any (A1 A2 : Option Addr) (c1 c2 n m : Nat) (a b : List Wd) (w : World) (h1 : kWd.C w A1 n a) (h2 : kWd.C w A2 m b) (hb : n ≤ 5864062014805) (hb2 : m ≤ 5864062014805) :
    Calls Tryd.prog 51 #[.slice A1 n c1, .slice A2 m c2] w fun e w' => e = .returned (.bool (sameW a b)) ∧ Below w.heap.size w w' := by
  have hnil : kWd.C w none 0 [] := ⟨rfl, by decide, fun h => by omega⟩
  have HS := hid (rSame_any none A1 none A2 0 c1 0 c2 0 n 0 m [] a [] b w hnil h1 hnil h2 (by omega) hb (by omega) hb2)
  have HE := hid (show (sameW [] [] && sameW a b) = sameW a b by rfl)
  rw [HE.out] at HS
  clear h1 h2 hnil
  go_enter Tryd.func51, Tryd.ntmps51
  go_wp2_with (go_at_call 105; refine HS.out.mono ?_; rintro e w' ⟨rfl, hB⟩; have HB := hid hB; clear hB)
  go_ret
  exact ⟨rfl, HB.out⟩
end Go.Proofs.YtbogcknkkbnfnaaDoor
