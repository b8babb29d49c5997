/- Texts laid as one: Oa Ob Oc. -/
import Derived.Test.YtbogcknkkbnfnaaDoorR5
import Derived.Test.YtbogcknkkbnfnaaDoorR4
import Derived.BigQuiet
/- Which types may be, and stand below others: the program's. -/
namespace Go.Proofs.YtbogcknkkbnfnaaDoor
open Go.RowKit Go.Proofs.YtbogcknkkbnfnaaDoorW.PrintWords Go.Maps Go.WideMaps

/-- May a type be? -/
def mayT (L : List Cl) (k : Int) (n : ByteArray) : Bool := if k = 3 ∨ k = 6 then (numOf L n).isSome else decide (k = 1 ∨ k = 2 ∨ k = 4 ∨ k = 5) && nmEq n ⟨#[]⟩
theorem nm_nil (n : ByteArray) : (n.toList == []) = nmEq n ⟨#[]⟩ := by rw [← nm_beq, ByteArray.toList_eq ⟨#[]⟩]
section
variable {B p : Nat} {L : List Cl} {w : World}
set_option maxRecDepth 100000 in
set_option maxHeartbeats 4000000 in
theorem sMay_any (h : IsSet B p L w) (k : Int) (n : ByteArray) (hn : n.size ≤ 9223372036854775807) : Calls Tryd.prog 11 #[.pointer (some ⟨p, 0, none⟩), .agg #[.int .i64 k, .string n]] w fun e w' => e = .returned (.bool (mayT L k n)) ∧ Below w.heap.size w w' := by
  have HB := hid (below_alloc (Below.refl w.heap.size w) (.cells #[.int .i64 k, .string n] 24))
  have HNU := hid (number_any (h.step HB.out) n hn)
  have HLE := hid (len_any (h.step HB.out))
  have hb := h.big
  have k1 := blk_new w (.cells #[.int .i64 k, .string n] 24)
  clear h
  by_cases h3 : k = 3
  · subst h3
    have hm : mayT L 3 n = (numOf L n).isSome := if_pos (.inl rfl)
    rw [hm]
    clear hm
    generalize numI L n = z at *
    generalize (numOf L n).isSome = bb at *
    go_enter Tryd.func11, Tryd.ntmps11
    go_upto_region 1 with fail
    have c0 := blk_cell k1 0
    have c1 := blk_cell k1 1
    clear k1
    generalize w.alloc (.cells #[.int .i64 3, .string n] 24) = w1 at *
    go_wp2_with (go_at_call 35; refine HNU.out.mono ?_; rintro e w' ⟨rfl, hw⟩; obtain rfl := hw.symm)
    go_ret
    exact ⟨rfl, HB.out⟩
  · by_cases h6 : k = 6
    · subst h6
      have hm : mayT L 6 n = (numOf L n).isSome := if_pos (.inr rfl)
      rw [hm]
      clear hm h3
      generalize numI L n = z at *
      generalize (numOf L n).isSome = bb at *
      go_enter Tryd.func11, Tryd.ntmps11
      go_upto_region 1 with fail
      have c0 := blk_cell k1 0
      have c1 := blk_cell k1 1
      clear k1
      generalize w.alloc (.cells #[.int .i64 6, .string n] 24) = w1 at *
      go_wp2_with (go_at_call 35; refine HNU.out.mono ?_; rintro e w' ⟨rfl, hw⟩; obtain rfl := hw.symm)
      go_ret
      exact ⟨rfl, HB.out⟩
    · have e3 : (k == 3) = false := by simp [h3]
      have e6 : (k == 6) = false := by simp [h6]
      have q0 := nm_nil n
      by_cases h4 : k = 1 ∨ k = 2 ∨ k = 4 ∨ k = 5
      · have HM := hid (show mayT L k n = nmEq n ⟨#[]⟩ from by unfold mayT; rw [if_neg (by omega), decide_eq_true h4]; rfl)
        rw [HM.out]
        generalize nmEq n ⟨#[]⟩ = bb at *
        generalize L.length = N at *
        clear h3 h6
        have HD := hid (show decide (0 < N) = true from decide_eq_true (by omega))
        rcases h4 with rfl | rfl | rfl | rfl <;> cases bb
        · go_enter Tryd.func11, Tryd.ntmps11
          go_upto_region 1 with fail
          have c0 := blk_cell k1 0
          have c1 := blk_cell k1 1
          clear k1
          generalize w.alloc (.cells #[.int .i64 1, .string n] 24) = w1 at *
          go_wp2_with (go_at_call 18; refine HLE.out.mono ?_; rintro e w' ⟨rfl, hw⟩; obtain rfl := hw.symm)
          go_ret
          first | exact ⟨rfl, HB.out⟩ | exact ⟨by rw [← HD.out]; rfl, HB.out⟩
        · go_enter Tryd.func11, Tryd.ntmps11
          go_upto_region 1 with fail
          have c0 := blk_cell k1 0
          have c1 := blk_cell k1 1
          clear k1
          generalize w.alloc (.cells #[.int .i64 1, .string n] 24) = w1 at *
          go_wp2_with (go_at_call 18; refine HLE.out.mono ?_; rintro e w' ⟨rfl, hw⟩; obtain rfl := hw.symm)
          go_ret
          first | exact ⟨rfl, HB.out⟩ | exact ⟨by rw [← HD.out]; rfl, HB.out⟩
        · go_enter Tryd.func11, Tryd.ntmps11
          go_upto_region 1 with fail
          have c0 := blk_cell k1 0
          have c1 := blk_cell k1 1
          clear k1
          generalize w.alloc (.cells #[.int .i64 2, .string n] 24) = w1 at *
          go_wp2_with (go_at_call 18; refine HLE.out.mono ?_; rintro e w' ⟨rfl, hw⟩; obtain rfl := hw.symm)
          go_ret
          first | exact ⟨rfl, HB.out⟩ | exact ⟨by rw [← HD.out]; rfl, HB.out⟩
        · go_enter Tryd.func11, Tryd.ntmps11
          go_upto_region 1 with fail
          have c0 := blk_cell k1 0
          have c1 := blk_cell k1 1
          clear k1
          generalize w.alloc (.cells #[.int .i64 2, .string n] 24) = w1 at *
          go_wp2_with (go_at_call 18; refine HLE.out.mono ?_; rintro e w' ⟨rfl, hw⟩; obtain rfl := hw.symm)
          go_ret
          first | exact ⟨rfl, HB.out⟩ | exact ⟨by rw [← HD.out]; rfl, HB.out⟩
        · go_enter Tryd.func11, Tryd.ntmps11
          go_upto_region 1 with fail
          have c0 := blk_cell k1 0
          have c1 := blk_cell k1 1
          clear k1
          generalize w.alloc (.cells #[.int .i64 4, .string n] 24) = w1 at *
          go_wp2_with (go_at_call 18; refine HLE.out.mono ?_; rintro e w' ⟨rfl, hw⟩; obtain rfl := hw.symm)
          go_ret
          first | exact ⟨rfl, HB.out⟩ | exact ⟨by rw [← HD.out]; rfl, HB.out⟩
        · go_enter Tryd.func11, Tryd.ntmps11
          go_upto_region 1 with fail
          have c0 := blk_cell k1 0
          have c1 := blk_cell k1 1
          clear k1
          generalize w.alloc (.cells #[.int .i64 4, .string n] 24) = w1 at *
          go_wp2_with (go_at_call 18; refine HLE.out.mono ?_; rintro e w' ⟨rfl, hw⟩; obtain rfl := hw.symm)
          go_ret
          first | exact ⟨rfl, HB.out⟩ | exact ⟨by rw [← HD.out]; rfl, HB.out⟩
        · go_enter Tryd.func11, Tryd.ntmps11
          go_upto_region 1 with fail
          have c0 := blk_cell k1 0
          have c1 := blk_cell k1 1
          clear k1
          generalize w.alloc (.cells #[.int .i64 5, .string n] 24) = w1 at *
          go_wp2_with (go_at_call 18; refine HLE.out.mono ?_; rintro e w' ⟨rfl, hw⟩; obtain rfl := hw.symm)
          go_ret
          first | exact ⟨rfl, HB.out⟩ | exact ⟨by rw [← HD.out]; rfl, HB.out⟩
        · go_enter Tryd.func11, Tryd.ntmps11
          go_upto_region 1 with fail
          have c0 := blk_cell k1 0
          have c1 := blk_cell k1 1
          clear k1
          generalize w.alloc (.cells #[.int .i64 5, .string n] 24) = w1 at *
          go_wp2_with (go_at_call 18; refine HLE.out.mono ?_; rintro e w' ⟨rfl, hw⟩; obtain rfl := hw.symm)
          go_ret
          first | exact ⟨rfl, HB.out⟩ | exact ⟨by rw [← HD.out]; rfl, HB.out⟩
      · have HM := hid (show mayT L k n = false from by unfold mayT; rw [if_neg (by omega), decide_eq_false h4]; rfl)
        rw [HM.out]
        have e1 : (k == 1) = false := by simp; omega
        have e2 : (k == 2) = false := by simp; omega
        have e4 : (k == 4) = false := by simp; omega
        have e5 : (k == 5) = false := by simp; omega
        clear h3 h6 h4 q0 HM HNU HLE
        go_enter Tryd.func11, Tryd.ntmps11
        go_upto_region 1 with fail
        have c0 := blk_cell k1 0
        have c1 := blk_cell k1 1
        clear k1
        generalize w.alloc (.cells #[.int .i64 k, .string n] 24) = w1 at *
        go_wp2
        go_ret
        exact ⟨rfl, HB.out⟩
end
end Go.Proofs.YtbogcknkkbnfnaaDoor

/- Which types stand below others: the program's. Printed by mkob.py. -/
namespace Go.Proofs.YtbogcknkkbnfnaaDoor
open Go.RowKit Go.Proofs.YtbogcknkkbnfnaaDoorW.PrintWords Go.Maps Go.WideMaps

set_option maxRecDepth 100000 in
theorem MapAt.look1 {w : World} {m : Nat} {L : List Cl} (h : MapAt w m L) (s : ByteArray) (hs : s.size ≤ 9223372036854775807) : (Instr.lookup 89 (.map (some m)) (.string s) false).run Tryd.prog w = .ok (.int .i64 (numI L s)) w := by
  obtain ⟨D, ⟨es, clock, hb, F, hM, rfl⟩, hn⟩ := h
  obtain ⟨h1, h2⟩ := hn s
  have hkey := (keyOf_string_mk Tryd.underlying9 (by unfold maxLen; omega) : keyOf Tryd.prog 9 (.string s) = some (keyL s))
  rcases Maps.fit_look false lawS Tryd.underlying89 (zeroI w) hb F hkey with ⟨hrun, _, hat⟩ | ⟨e0, y, _, _, hrun, hRv, hat, _⟩
  · have h3 := Maps.has_false_of_atKey hat
    unfold keyL at h1 h3
    rw [h3] at h1
    have h4 : numI L s = 0 := by
      unfold numI
      cases e : numOf L s with
      | none => rfl
      | some i => rw [e] at h1; cases h1
    rw [h4]
    exact hrun
  · have h3 := Maps.has_true_of_atKey hat
    unfold keyL at h1 h3
    rw [h3] at h1
    obtain ⟨c, hc0, hc, _⟩ := plainElem_int_inv Tryd.underlying3 hRv
    have hrun' : (Instr.lookup 89 (.map (some m)) (.string s) false).run Tryd.prog w = .ok e0.val w := hrun
    rw [hrun', hc0]
    cases e : numOf L s with
    | none => rw [e] at h1; cases h1
    | some i =>
      have h5 := h2 i e
      unfold keyL at h5
      have h6 := hat (.lit (.int .i64 0))
      rw [h5] at h6
      simp only [hc] at h6
      have h7 : c = (i : Int) := by
        have := h6
        injection this with this
        injection this with _ this
        exact this.symm
      rw [h7]
      unfold numI
      rw [e]
      rfl
/-- Does one stand below another? -/
def belT (L : List Cl) (ak : Int) (an : ByteArray) (bk : Int) (bn : ByteArray) : Bool :=
  if mayT L ak an = false ∨ mayT L bk bn = false ∨ ak < 3 ∨ bk < 3 then false
  else if (ak = bk ∧ an = bn) ∨ (bk = 3 ∧ bn = ⟨#[79, 98, 106, 101, 99, 116]⟩) then true
  else if ak ≠ bk ∨ an = ⟨#[]⟩ then false
  else decide ((numI L bn).toNat ∈ aboveOf L (numI L an).toNat)
theorem numI_nat (L : List Cl) (s : ByteArray) : ((numI L s).toNat : Int) = numI L s := by unfold numI; simp
section
variable {B p : Nat} {L : List Cl} {w : World}
set_option maxRecDepth 100000 in
set_option maxHeartbeats 0 in
theorem sBelT_any (h : IsSet B p L w) (ak : Int) (an : ByteArray) (bk : Int) (bn : ByteArray) (hA : an.size ≤ 9223372036854775807) (hB : bn.size ≤ 9223372036854775807) : Calls Tryd.prog 15 #[.pointer (some ⟨p, 0, none⟩), .agg #[.int .i64 ak, .string an], .agg #[.int .i64 bk, .string bn]] w fun e w' => e = .returned (.bool (belT L ak an bk bn)) ∧ Below w.heap.size w w' := by
  have HB2 := hid (below_alloc (below_alloc (Below.refl w.heap.size w) (.cells #[.int .i64 ak, .string an] 24)) (.cells #[.int .i64 bk, .string bn] 24))
  have k1 := blk_alloc (blk_new w (.cells #[.int .i64 ak, .string an] 24)) (.cells #[.int .i64 bk, .string bn] 24)
  have k2 := blk_new (w.alloc (.cells #[.int .i64 ak, .string an] 24)) (.cells #[.int .i64 bk, .string bn] 24)
  rw [World.size_alloc] at k2
  have K1 := hid k1
  have K2 := hid k2
  clear k1 k2
  have HS := hid (h.step HB2.out)
  obtain ⟨ma, hma⟩ : ∃ x, mayT L ak an = x := ⟨_, rfl⟩
  obtain ⟨mb, hmb⟩ : ∃ x, mayT L bk bn = x := ⟨_, rfl⟩
  have HMY := hid (fun (k : Int) (n : ByteArray) (v : Bool) (W : World) (hW : Below ((w.alloc (.cells #[.int .i64 ak, .string an] 24)).alloc (.cells #[.int .i64 bk, .string bn] 24)).heap.size ((w.alloc (.cells #[.int .i64 ak, .string an] 24)).alloc (.cells #[.int .i64 bk, .string bn] 24)) W) (q : mayT L k n = v ∧ n.size ≤ 9223372036854775807) => (show Calls Tryd.prog 11 #[.pointer (some ⟨p, 0, none⟩), .agg #[.int .i64 k, .string n]] W fun e w' => e = .returned (.bool v) ∧ Below W.heap.size W w' from by
    have := sMay_any (HS.out.step hW) k n q.2
    rw [q.1] at this
    exact this))
  have Q1 := hid (show mayT L ak an = ma ∧ an.size ≤ 9223372036854775807 from ⟨hma, hA⟩)
  have Q2 := hid (show mayT L bk bn = mb ∧ bn.size ≤ 9223372036854775807 from ⟨hmb, hB⟩)
  clear h hA hB
  cases ma with
  | false =>
    have HV := hid (show belT L ak an bk bn = false from by unfold belT; rw [if_pos (.inl hma)])
    rw [HV.out]
    try clear h7
    try clear h6
    try clear h5
    try clear h4
    try clear h3
    go_enter Tryd.func15, Tryd.ntmps15
    go_upto_region 1 with fail
    have HBz := hid (Below.refl ((w.alloc (.cells #[.int .i64 ak, .string an] 24)).alloc (.cells #[.int .i64 bk, .string bn] 24)).heap.size ((w.alloc (.cells #[.int .i64 ak, .string an] 24)).alloc (.cells #[.int .i64 bk, .string bn] 24)))
    generalize (w.alloc (.cells #[.int .i64 ak, .string an] 24)).alloc (.cells #[.int .i64 bk, .string bn] 24) = w2 at *
    have c0 := blk_cell K1.out 0
    have c1 := blk_cell K1.out 1
    have d0 := blk_cell K2.out 0
    have d1 := blk_cell K2.out 1
    go_wp2_with (go_at_call 11; refine (HMY.out _ _ _ _ (by first | exact HBz.out | assumption) (by first | exact Q1.out | exact Q2.out)).mono ?_; rintro e w' ⟨rfl, hB⟩; have hb := bel_tr (a := w2) (by first | exact HBz.out | assumption) hB; clear hB; have c0 := blk_cell (blk_below K1.out hb) 0; have c1 := blk_cell (blk_below K1.out hb) 1; have d0 := blk_cell (blk_below K2.out hb) 0; have d1 := blk_cell (blk_below K2.out hb) 1)
    go_ret
    exact ⟨rfl, below_weaken HB2.out HB2.out.size hb⟩
  | true =>
    cases mb with
    | false =>
      have HV := hid (show belT L ak an bk bn = false from by unfold belT; rw [if_pos (.inr (.inl hmb))])
      rw [HV.out]
      try clear h7
      try clear h6
      try clear h5
      try clear h4
      try clear h3
      go_enter Tryd.func15, Tryd.ntmps15
      go_upto_region 1 with fail
      have HBz := hid (Below.refl ((w.alloc (.cells #[.int .i64 ak, .string an] 24)).alloc (.cells #[.int .i64 bk, .string bn] 24)).heap.size ((w.alloc (.cells #[.int .i64 ak, .string an] 24)).alloc (.cells #[.int .i64 bk, .string bn] 24)))
      generalize (w.alloc (.cells #[.int .i64 ak, .string an] 24)).alloc (.cells #[.int .i64 bk, .string bn] 24) = w2 at *
      have c0 := blk_cell K1.out 0
      have c1 := blk_cell K1.out 1
      have d0 := blk_cell K2.out 0
      have d1 := blk_cell K2.out 1
      go_wp2_with (go_at_call 11; refine (HMY.out _ _ _ _ (by first | exact HBz.out | assumption) (by first | exact Q1.out | exact Q2.out)).mono ?_; rintro e w' ⟨rfl, hB⟩; have hb := bel_tr (a := w2) (by first | exact HBz.out | assumption) hB; clear hB; have c0 := blk_cell (blk_below K1.out hb) 0; have c1 := blk_cell (blk_below K1.out hb) 1; have d0 := blk_cell (blk_below K2.out hb) 0; have d1 := blk_cell (blk_below K2.out hb) 1)
      go_ret
      exact ⟨rfl, below_weaken HB2.out HB2.out.size hb⟩
    | true =>
      by_cases h1 : ak < 3
      · have e1 : decide (ak < 3) = true := decide_eq_true h1
        have HV := hid (show belT L ak an bk bn = false from by unfold belT; rw [if_pos (.inr (.inr (.inl h1)))])
        rw [HV.out]
        try clear h7
        try clear h6
        try clear h5
        try clear h4
        try clear h3
        go_enter Tryd.func15, Tryd.ntmps15
        go_upto_region 1 with fail
        have HBz := hid (Below.refl ((w.alloc (.cells #[.int .i64 ak, .string an] 24)).alloc (.cells #[.int .i64 bk, .string bn] 24)).heap.size ((w.alloc (.cells #[.int .i64 ak, .string an] 24)).alloc (.cells #[.int .i64 bk, .string bn] 24)))
        generalize (w.alloc (.cells #[.int .i64 ak, .string an] 24)).alloc (.cells #[.int .i64 bk, .string bn] 24) = w2 at *
        have c0 := blk_cell K1.out 0
        have c1 := blk_cell K1.out 1
        have d0 := blk_cell K2.out 0
        have d1 := blk_cell K2.out 1
        go_wp2_with (go_at_call 11; refine (HMY.out _ _ _ _ (by first | exact HBz.out | assumption) (by first | exact Q1.out | exact Q2.out)).mono ?_; rintro e w' ⟨rfl, hB⟩; have hb := bel_tr (a := w2) (by first | exact HBz.out | assumption) hB; clear hB; have c0 := blk_cell (blk_below K1.out hb) 0; have c1 := blk_cell (blk_below K1.out hb) 1; have d0 := blk_cell (blk_below K2.out hb) 0; have d1 := blk_cell (blk_below K2.out hb) 1)
        go_ret
        exact ⟨rfl, below_weaken HB2.out HB2.out.size hb⟩
      · by_cases h2 : bk < 3
        · have e2 : decide (bk < 3) = true := decide_eq_true h2
          have HV := hid (show belT L ak an bk bn = false from by unfold belT; rw [if_pos (.inr (.inr (.inr h2)))])
          rw [HV.out]
          try clear h7
          try clear h6
          try clear h5
          try clear h4
          try clear h3
          go_enter Tryd.func15, Tryd.ntmps15
          go_upto_region 1 with fail
          have HBz := hid (Below.refl ((w.alloc (.cells #[.int .i64 ak, .string an] 24)).alloc (.cells #[.int .i64 bk, .string bn] 24)).heap.size ((w.alloc (.cells #[.int .i64 ak, .string an] 24)).alloc (.cells #[.int .i64 bk, .string bn] 24)))
          generalize (w.alloc (.cells #[.int .i64 ak, .string an] 24)).alloc (.cells #[.int .i64 bk, .string bn] 24) = w2 at *
          have c0 := blk_cell K1.out 0
          have c1 := blk_cell K1.out 1
          have d0 := blk_cell K2.out 0
          have d1 := blk_cell K2.out 1
          go_wp2_with (go_at_call 11; refine (HMY.out _ _ _ _ (by first | exact HBz.out | assumption) (by first | exact Q1.out | exact Q2.out)).mono ?_; rintro e w' ⟨rfl, hB⟩; have hb := bel_tr (a := w2) (by first | exact HBz.out | assumption) hB; clear hB; have c0 := blk_cell (blk_below K1.out hb) 0; have c1 := blk_cell (blk_below K1.out hb) 1; have d0 := blk_cell (blk_below K2.out hb) 0; have d1 := blk_cell (blk_below K2.out hb) 1)
          go_ret
          exact ⟨rfl, below_weaken HB2.out HB2.out.size hb⟩
        · have HN := hid (show ¬ (mayT L ak an = false ∨ mayT L bk bn = false ∨ ak < 3 ∨ bk < 3) from by rw [hma, hmb]; simp; omega)
          have e5 : (an.toList == bn.toList) = nmEq an bn := nm_beq an bn
          have e6 : (bn.toList == [79, 98, 106, 101, 99, 116]) = nmEq bn ⟨#[79, 98, 106, 101, 99, 116]⟩ := by rw [← nm_beq, ByteArray.toList_eq ⟨#[79, 98, 106, 101, 99, 116]⟩]
          have e7 := nm_nil an
          by_cases h3 : ak = bk ∧ an = bn
          · have e4 : (ak == bk) = true := by simp [h3.1]
            rw [show nmEq an bn = true from nmEq_iff.2 h3.2] at e5
            clear e6 e7
            have HV := hid (show belT L ak an bk bn = true from by unfold belT; rw [if_neg HN.out, if_pos (.inl h3)])
            rw [HV.out]
            try clear h7
            try clear h6
            try clear h5
            try clear h4
            try clear h3
            go_enter Tryd.func15, Tryd.ntmps15
            go_upto_region 1 with fail
            have HBz := hid (Below.refl ((w.alloc (.cells #[.int .i64 ak, .string an] 24)).alloc (.cells #[.int .i64 bk, .string bn] 24)).heap.size ((w.alloc (.cells #[.int .i64 ak, .string an] 24)).alloc (.cells #[.int .i64 bk, .string bn] 24)))
            generalize (w.alloc (.cells #[.int .i64 ak, .string an] 24)).alloc (.cells #[.int .i64 bk, .string bn] 24) = w2 at *
            have c0 := blk_cell K1.out 0
            have c1 := blk_cell K1.out 1
            have d0 := blk_cell K2.out 0
            have d1 := blk_cell K2.out 1
            go_wp2_with (go_at_call 11; refine (HMY.out _ _ _ _ (by first | exact HBz.out | assumption) (by first | exact Q1.out | exact Q2.out)).mono ?_; rintro e w' ⟨rfl, hB⟩; have hb := bel_tr (a := w2) (by first | exact HBz.out | assumption) hB; clear hB; have c0 := blk_cell (blk_below K1.out hb) 0; have c1 := blk_cell (blk_below K1.out hb) 1; have d0 := blk_cell (blk_below K2.out hb) 0; have d1 := blk_cell (blk_below K2.out hb) 1)
            go_ret
            exact ⟨rfl, below_weaken HB2.out HB2.out.size hb⟩
          · by_cases h4 : bk = 3 ∧ bn = ⟨#[79, 98, 106, 101, 99, 116]⟩
            · rw [show nmEq bn ⟨#[79, 98, 106, 101, 99, 116]⟩ = true from nmEq_iff.2 h4.2] at e6
              have e8 : (bk == 3) = true := by simp [h4.1]
              have HV0 := hid (show belT L ak an bk bn = true from by unfold belT; rw [if_neg HN.out, if_pos (.inr h4)])
              by_cases h5 : ak = bk
              · have e4 : (ak == bk) = true := by simp [h5]
                rw [show nmEq an bn = false from nmEq_ne.2 (fun e => h3 ⟨h5, e⟩)] at e5
                clear e7
                have HV := hid (show belT L ak an bk bn = true from HV0.out)
                rw [HV.out]
                try clear h7
                try clear h6
                try clear h5
                try clear h4
                try clear h3
                go_enter Tryd.func15, Tryd.ntmps15
                go_upto_region 1 with fail
                have HBz := hid (Below.refl ((w.alloc (.cells #[.int .i64 ak, .string an] 24)).alloc (.cells #[.int .i64 bk, .string bn] 24)).heap.size ((w.alloc (.cells #[.int .i64 ak, .string an] 24)).alloc (.cells #[.int .i64 bk, .string bn] 24)))
                generalize (w.alloc (.cells #[.int .i64 ak, .string an] 24)).alloc (.cells #[.int .i64 bk, .string bn] 24) = w2 at *
                have c0 := blk_cell K1.out 0
                have c1 := blk_cell K1.out 1
                have d0 := blk_cell K2.out 0
                have d1 := blk_cell K2.out 1
                go_wp2_with (go_at_call 11; refine (HMY.out _ _ _ _ (by first | exact HBz.out | assumption) (by first | exact Q1.out | exact Q2.out)).mono ?_; rintro e w' ⟨rfl, hB⟩; have hb := bel_tr (a := w2) (by first | exact HBz.out | assumption) hB; clear hB; have c0 := blk_cell (blk_below K1.out hb) 0; have c1 := blk_cell (blk_below K1.out hb) 1; have d0 := blk_cell (blk_below K2.out hb) 0; have d1 := blk_cell (blk_below K2.out hb) 1)
                go_ret
                exact ⟨rfl, below_weaken HB2.out HB2.out.size hb⟩
              · have e4 : (ak == bk) = false := by simp [h5]
                clear e5 e7
                have HV := hid (show belT L ak an bk bn = true from HV0.out)
                rw [HV.out]
                try clear h7
                try clear h6
                try clear h5
                try clear h4
                try clear h3
                go_enter Tryd.func15, Tryd.ntmps15
                go_upto_region 1 with fail
                have HBz := hid (Below.refl ((w.alloc (.cells #[.int .i64 ak, .string an] 24)).alloc (.cells #[.int .i64 bk, .string bn] 24)).heap.size ((w.alloc (.cells #[.int .i64 ak, .string an] 24)).alloc (.cells #[.int .i64 bk, .string bn] 24)))
                generalize (w.alloc (.cells #[.int .i64 ak, .string an] 24)).alloc (.cells #[.int .i64 bk, .string bn] 24) = w2 at *
                have c0 := blk_cell K1.out 0
                have c1 := blk_cell K1.out 1
                have d0 := blk_cell K2.out 0
                have d1 := blk_cell K2.out 1
                go_wp2_with (go_at_call 11; refine (HMY.out _ _ _ _ (by first | exact HBz.out | assumption) (by first | exact Q1.out | exact Q2.out)).mono ?_; rintro e w' ⟨rfl, hB⟩; have hb := bel_tr (a := w2) (by first | exact HBz.out | assumption) hB; clear hB; have c0 := blk_cell (blk_below K1.out hb) 0; have c1 := blk_cell (blk_below K1.out hb) 1; have d0 := blk_cell (blk_below K2.out hb) 0; have d1 := blk_cell (blk_below K2.out hb) 1)
                go_ret
                exact ⟨rfl, below_weaken HB2.out HB2.out.size hb⟩
            · by_cases h5 : ak = bk
              · have e4 : (ak == bk) = true := by simp [h5]
                have e9 : (ak != bk) = false := by simp [h5]
                rw [show nmEq an bn = false from nmEq_ne.2 (fun e => h3 ⟨h5, e⟩)] at e5
                have HN2 := hid (show ¬ ((ak = bk ∧ an = bn) ∨ (bk = 3 ∧ bn = ⟨#[79, 98, 106, 101, 99, 116]⟩)) from fun hh => hh.elim h3 h4)
                by_cases h6 : an = ⟨#[]⟩
                · rw [show nmEq an ⟨#[]⟩ = true from nmEq_iff.2 h6] at e7
                  have HV0 := hid (show belT L ak an bk bn = false from by unfold belT; rw [if_neg HN.out, if_neg HN2.out, if_pos (.inr h6)])
                  by_cases h7 : bk = 3
                  · have e8 : (bk == 3) = true := by simp [h7]
                    rw [show nmEq bn ⟨#[79, 98, 106, 101, 99, 116]⟩ = false from nmEq_ne.2 (fun e => h4 ⟨h7, e⟩)] at e6
                    have HV := hid (show belT L ak an bk bn = false from HV0.out)
                    rw [HV.out]
                    try clear h7
                    try clear h6
                    try clear h5
                    try clear h4
                    try clear h3
                    go_enter Tryd.func15, Tryd.ntmps15
                    go_upto_region 1 with fail
                    have HBz := hid (Below.refl ((w.alloc (.cells #[.int .i64 ak, .string an] 24)).alloc (.cells #[.int .i64 bk, .string bn] 24)).heap.size ((w.alloc (.cells #[.int .i64 ak, .string an] 24)).alloc (.cells #[.int .i64 bk, .string bn] 24)))
                    generalize (w.alloc (.cells #[.int .i64 ak, .string an] 24)).alloc (.cells #[.int .i64 bk, .string bn] 24) = w2 at *
                    have c0 := blk_cell K1.out 0
                    have c1 := blk_cell K1.out 1
                    have d0 := blk_cell K2.out 0
                    have d1 := blk_cell K2.out 1
                    go_wp2_with (go_at_call 11; refine (HMY.out _ _ _ _ (by first | exact HBz.out | assumption) (by first | exact Q1.out | exact Q2.out)).mono ?_; rintro e w' ⟨rfl, hB⟩; have hb := bel_tr (a := w2) (by first | exact HBz.out | assumption) hB; clear hB; have c0 := blk_cell (blk_below K1.out hb) 0; have c1 := blk_cell (blk_below K1.out hb) 1; have d0 := blk_cell (blk_below K2.out hb) 0; have d1 := blk_cell (blk_below K2.out hb) 1)
                    go_ret
                    exact ⟨rfl, below_weaken HB2.out HB2.out.size hb⟩
                  · have e8 : (bk == 3) = false := by simp [h7]
                    clear e6
                    have HV := hid (show belT L ak an bk bn = false from HV0.out)
                    rw [HV.out]
                    try clear h7
                    try clear h6
                    try clear h5
                    try clear h4
                    try clear h3
                    go_enter Tryd.func15, Tryd.ntmps15
                    go_upto_region 1 with fail
                    have HBz := hid (Below.refl ((w.alloc (.cells #[.int .i64 ak, .string an] 24)).alloc (.cells #[.int .i64 bk, .string bn] 24)).heap.size ((w.alloc (.cells #[.int .i64 ak, .string an] 24)).alloc (.cells #[.int .i64 bk, .string bn] 24)))
                    generalize (w.alloc (.cells #[.int .i64 ak, .string an] 24)).alloc (.cells #[.int .i64 bk, .string bn] 24) = w2 at *
                    have c0 := blk_cell K1.out 0
                    have c1 := blk_cell K1.out 1
                    have d0 := blk_cell K2.out 0
                    have d1 := blk_cell K2.out 1
                    go_wp2_with (go_at_call 11; refine (HMY.out _ _ _ _ (by first | exact HBz.out | assumption) (by first | exact Q1.out | exact Q2.out)).mono ?_; rintro e w' ⟨rfl, hB⟩; have hb := bel_tr (a := w2) (by first | exact HBz.out | assumption) hB; clear hB; have c0 := blk_cell (blk_below K1.out hb) 0; have c1 := blk_cell (blk_below K1.out hb) 1; have d0 := blk_cell (blk_below K2.out hb) 0; have d1 := blk_cell (blk_below K2.out hb) 1)
                    go_ret
                    exact ⟨rfl, below_weaken HB2.out HB2.out.size hb⟩
                · rw [show nmEq an ⟨#[]⟩ = false from nmEq_ne.2 h6] at e7
                  have HV0 := hid (show belT L ak an bk bn = decide ((numI L bn).toNat ∈ aboveOf L (numI L an).toNat) from by unfold belT; rw [if_neg HN.out, if_neg HN2.out, if_neg (fun hh => hh.elim (fun h => h h5) h6)])
                  by_cases h7 : bk = 3
                  · have e8 : (bk == 3) = true := by simp [h7]
                    rw [show nmEq bn ⟨#[79, 98, 106, 101, 99, 116]⟩ = false from nmEq_ne.2 (fun e => h4 ⟨h7, e⟩)] at e6
                    have HV := hid (show belT L ak an bk bn = decide ((numI L bn).toNat ∈ aboveOf L (numI L an).toNat) from HV0.out)
                    rw [HV.out]
                    try clear h7
                    try clear h6
                    try clear h5
                    try clear h4
                    try clear h3
                    go_enter Tryd.func15, Tryd.ntmps15
                    go_upto_region 1 with fail
                    have HBz := hid (Below.refl ((w.alloc (.cells #[.int .i64 ak, .string an] 24)).alloc (.cells #[.int .i64 bk, .string bn] 24)).heap.size ((w.alloc (.cells #[.int .i64 ak, .string an] 24)).alloc (.cells #[.int .i64 bk, .string bn] 24)))
                    generalize (w.alloc (.cells #[.int .i64 ak, .string an] 24)).alloc (.cells #[.int .i64 bk, .string bn] 24) = w2 at *
                    have c0 := blk_cell K1.out 0
                    have c1 := blk_cell K1.out 1
                    have d0 := blk_cell K2.out 0
                    have d1 := blk_cell K2.out 1
                    go_upto_region 7 with (go_at_call 11; refine (HMY.out _ _ _ _ (by first | exact HBz.out | assumption) (by first | exact Q1.out | exact Q2.out)).mono ?_; rintro e w' ⟨rfl, hB⟩; have hb := bel_tr (a := w2) (by first | exact HBz.out | assumption) hB; clear hB; have c0 := blk_cell (blk_below K1.out hb) 0; have c1 := blk_cell (blk_below K1.out hb) 1; have d0 := blk_cell (blk_below K2.out hb) 0; have d1 := blk_cell (blk_below K2.out hb) 1)
                    obtain ⟨g, cap, m, gs, cs, gf, cf, ga, ca, hV, _⟩ := (HS.out.step hb).sv
                    have a1 := blk_cell hV.blk 1
                    have HM := hid hV.map
                    have z1 := numI_nat L an
                    have z2 := numI_nat L bn
                    obtain ⟨r, hr⟩ : ∃ r, decide ((numI L bn).toNat ∈ aboveOf L (numI L an).toNat) = r := ⟨_, rfl⟩
                    have HR := hid hr
                    have HQ := hid (show Bq L (numI L an) (numI L bn) r from ⟨_, _, z1.symm, z2.symm, by have := (numI_range L an (by have := HS.out.big; omega)).2; omega, by have := (numI_range L bn (by have := HS.out.big; omega)).2; omega, hr⟩)
                    clear hr
                    have HCB := hid (fun (W : World) (hW : Below w'.heap.size w' W) => Bq.calls (HS.out.step hb) _ _ _ W HQ.out hW)
                    have l1 := fun nq => (HM.out.move (w' := w'.drewN nq) rfl).look1 an Q1.out.2
                    have l2 := fun nq => (HM.out.move (w' := w'.drewN nq) rfl).look1 bn Q2.out.2
                    clear hV z1 z2
                    go_quiet ((go_at_call 31; exact Calls.quiet_of_same (HCB.out _ (pw_below_drewN (Below.refl _ _) _))))
                    go_wp2
                    go_ret
                    exact ⟨by rw [HR.out]; rfl, below_weaken HB2.out HB2.out.size (pw_below_drewN hb _)⟩
                  · have e8 : (bk == 3) = false := by simp [h7]
                    clear e6
                    have HV := hid (show belT L ak an bk bn = decide ((numI L bn).toNat ∈ aboveOf L (numI L an).toNat) from HV0.out)
                    rw [HV.out]
                    try clear h7
                    try clear h6
                    try clear h5
                    try clear h4
                    try clear h3
                    go_enter Tryd.func15, Tryd.ntmps15
                    go_upto_region 1 with fail
                    have HBz := hid (Below.refl ((w.alloc (.cells #[.int .i64 ak, .string an] 24)).alloc (.cells #[.int .i64 bk, .string bn] 24)).heap.size ((w.alloc (.cells #[.int .i64 ak, .string an] 24)).alloc (.cells #[.int .i64 bk, .string bn] 24)))
                    generalize (w.alloc (.cells #[.int .i64 ak, .string an] 24)).alloc (.cells #[.int .i64 bk, .string bn] 24) = w2 at *
                    have c0 := blk_cell K1.out 0
                    have c1 := blk_cell K1.out 1
                    have d0 := blk_cell K2.out 0
                    have d1 := blk_cell K2.out 1
                    go_upto_region 7 with (go_at_call 11; refine (HMY.out _ _ _ _ (by first | exact HBz.out | assumption) (by first | exact Q1.out | exact Q2.out)).mono ?_; rintro e w' ⟨rfl, hB⟩; have hb := bel_tr (a := w2) (by first | exact HBz.out | assumption) hB; clear hB; have c0 := blk_cell (blk_below K1.out hb) 0; have c1 := blk_cell (blk_below K1.out hb) 1; have d0 := blk_cell (blk_below K2.out hb) 0; have d1 := blk_cell (blk_below K2.out hb) 1)
                    obtain ⟨g, cap, m, gs, cs, gf, cf, ga, ca, hV, _⟩ := (HS.out.step hb).sv
                    have a1 := blk_cell hV.blk 1
                    have HM := hid hV.map
                    have z1 := numI_nat L an
                    have z2 := numI_nat L bn
                    obtain ⟨r, hr⟩ : ∃ r, decide ((numI L bn).toNat ∈ aboveOf L (numI L an).toNat) = r := ⟨_, rfl⟩
                    have HR := hid hr
                    have HQ := hid (show Bq L (numI L an) (numI L bn) r from ⟨_, _, z1.symm, z2.symm, by have := (numI_range L an (by have := HS.out.big; omega)).2; omega, by have := (numI_range L bn (by have := HS.out.big; omega)).2; omega, hr⟩)
                    clear hr
                    have HCB := hid (fun (W : World) (hW : Below w'.heap.size w' W) => Bq.calls (HS.out.step hb) _ _ _ W HQ.out hW)
                    have l1 := fun nq => (HM.out.move (w' := w'.drewN nq) rfl).look1 an Q1.out.2
                    have l2 := fun nq => (HM.out.move (w' := w'.drewN nq) rfl).look1 bn Q2.out.2
                    clear hV z1 z2
                    go_quiet ((go_at_call 31; exact Calls.quiet_of_same (HCB.out _ (pw_below_drewN (Below.refl _ _) _))))
                    go_wp2
                    go_ret
                    exact ⟨by rw [HR.out]; rfl, below_weaken HB2.out HB2.out.size (pw_below_drewN hb _)⟩
              · have e4 : (ak == bk) = false := by simp [h5]
                have e9 : (ak != bk) = true := by simp [h5]
                have HN2 := hid (show ¬ ((ak = bk ∧ an = bn) ∨ (bk = 3 ∧ bn = ⟨#[79, 98, 106, 101, 99, 116]⟩)) from fun hh => hh.elim h3 h4)
                have HV0 := hid (show belT L ak an bk bn = false from by unfold belT; rw [if_neg HN.out, if_neg HN2.out, if_pos (.inl h5)])
                clear e5 e7
                by_cases h7 : bk = 3
                · have e8 : (bk == 3) = true := by simp [h7]
                  rw [show nmEq bn ⟨#[79, 98, 106, 101, 99, 116]⟩ = false from nmEq_ne.2 (fun e => h4 ⟨h7, e⟩)] at e6
                  have HV := hid (show belT L ak an bk bn = false from HV0.out)
                  rw [HV.out]
                  try clear h7
                  try clear h6
                  try clear h5
                  try clear h4
                  try clear h3
                  go_enter Tryd.func15, Tryd.ntmps15
                  go_upto_region 1 with fail
                  have HBz := hid (Below.refl ((w.alloc (.cells #[.int .i64 ak, .string an] 24)).alloc (.cells #[.int .i64 bk, .string bn] 24)).heap.size ((w.alloc (.cells #[.int .i64 ak, .string an] 24)).alloc (.cells #[.int .i64 bk, .string bn] 24)))
                  generalize (w.alloc (.cells #[.int .i64 ak, .string an] 24)).alloc (.cells #[.int .i64 bk, .string bn] 24) = w2 at *
                  have c0 := blk_cell K1.out 0
                  have c1 := blk_cell K1.out 1
                  have d0 := blk_cell K2.out 0
                  have d1 := blk_cell K2.out 1
                  go_wp2_with (go_at_call 11; refine (HMY.out _ _ _ _ (by first | exact HBz.out | assumption) (by first | exact Q1.out | exact Q2.out)).mono ?_; rintro e w' ⟨rfl, hB⟩; have hb := bel_tr (a := w2) (by first | exact HBz.out | assumption) hB; clear hB; have c0 := blk_cell (blk_below K1.out hb) 0; have c1 := blk_cell (blk_below K1.out hb) 1; have d0 := blk_cell (blk_below K2.out hb) 0; have d1 := blk_cell (blk_below K2.out hb) 1)
                  go_ret
                  exact ⟨rfl, below_weaken HB2.out HB2.out.size hb⟩
                · have e8 : (bk == 3) = false := by simp [h7]
                  clear e6
                  have HV := hid (show belT L ak an bk bn = false from HV0.out)
                  rw [HV.out]
                  try clear h7
                  try clear h6
                  try clear h5
                  try clear h4
                  try clear h3
                  go_enter Tryd.func15, Tryd.ntmps15
                  go_upto_region 1 with fail
                  have HBz := hid (Below.refl ((w.alloc (.cells #[.int .i64 ak, .string an] 24)).alloc (.cells #[.int .i64 bk, .string bn] 24)).heap.size ((w.alloc (.cells #[.int .i64 ak, .string an] 24)).alloc (.cells #[.int .i64 bk, .string bn] 24)))
                  generalize (w.alloc (.cells #[.int .i64 ak, .string an] 24)).alloc (.cells #[.int .i64 bk, .string bn] 24) = w2 at *
                  have c0 := blk_cell K1.out 0
                  have c1 := blk_cell K1.out 1
                  have d0 := blk_cell K2.out 0
                  have d1 := blk_cell K2.out 1
                  go_wp2_with (go_at_call 11; refine (HMY.out _ _ _ _ (by first | exact HBz.out | assumption) (by first | exact Q1.out | exact Q2.out)).mono ?_; rintro e w' ⟨rfl, hB⟩; have hb := bel_tr (a := w2) (by first | exact HBz.out | assumption) hB; clear hB; have c0 := blk_cell (blk_below K1.out hb) 0; have c1 := blk_cell (blk_below K1.out hb) 1; have d0 := blk_cell (blk_below K2.out hb) 0; have d1 := blk_cell (blk_below K2.out hb) 1)
                  go_ret
                  exact ⟨rfl, below_weaken HB2.out HB2.out.size hb⟩
end
end Go.Proofs.YtbogcknkkbnfnaaDoor

/- The package word: mayRef, may. Printed by mkoc.py. -/
namespace Go.Proofs.YtbogcknkkbnfnaaDoor
open Go.RowKit Go.Proofs.YtbogcknkkbnfnaaDoorW.PrintWords Go.Maps Go.WideMaps

/-- A word. -/
structure Wd where
  k : Int
  tk : Int
  tn : ByteArray
def mayRefT (L : List Cl) (k : Int) (n : ByteArray) : Bool := decide (3 ≤ k) && mayT L k n
def mayW (L : List Cl) (x : Wd) : Bool := if x.k = 0 ∨ x.k = 1 ∨ x.k = 2 ∨ x.k = 3 ∨ x.k = 4 then decide (x.tk = 0) && nmEq x.tn ⟨#[]⟩ else if x.k = 5 then mayRefT L x.tk x.tn else false
section
variable {B p : Nat} {L : List Cl} {w : World}
set_option maxRecDepth 100000 in
set_option maxHeartbeats 4000000 in
theorem mayRef_any (h : IsSet B p L w) (k : Int) (n : ByteArray) (hn : n.size ≤ 9223372036854775807) : Calls Tryd.prog 52 #[.pointer (some ⟨p, 0, none⟩), .agg #[.int .i64 k, .string n]] w fun e w' => e = .returned (.bool (mayRefT L k n)) ∧ Below w.heap.size w w' := by
  have HB := hid (below_alloc (Below.refl w.heap.size w) (.cells #[.int .i64 k, .string n] 24))
  have HMY := hid (sMay_any (h.step HB.out) k n hn)
  have k1 := blk_new w (.cells #[.int .i64 k, .string n] 24)
  clear h
  by_cases h3 : 3 ≤ k
  · have hm : mayRefT L k n = mayT L k n := by unfold mayRefT; rw [decide_eq_true h3]; rfl
    rw [hm]
    clear hm
    generalize mayT L k n = v at *
    go_enter Tryd.func52, Tryd.ntmps52
    go_upto_region 1 with fail
    have c0 := blk_cell k1 0
    have c1 := blk_cell k1 1
    clear k1
    generalize w.alloc (.cells #[.int .i64 k, .string n] 24) = w1 at *
    go_wp2_with (go_at_call 11; refine HMY.out.mono ?_; rintro e w' ⟨rfl, hB⟩; have HB3 := hid (below_weaken HB.out HB.out.size hB); clear hB)
    go_ret
    exact ⟨rfl, HB3.out⟩
  · have hm : mayRefT L k n = false := by unfold mayRefT; rw [decide_eq_false h3]; rfl
    rw [hm]
    clear hm HMY
    go_enter Tryd.func52, Tryd.ntmps52
    go_upto_region 1 with fail
    have c0 := blk_cell k1 0
    have c1 := blk_cell k1 1
    clear k1
    generalize w.alloc (.cells #[.int .i64 k, .string n] 24) = w1 at *
    go_wp2
    go_ret
    exact ⟨rfl, HB.out⟩
set_option maxRecDepth 100000 in
set_option maxHeartbeats 8000000 in
theorem may_any (h : IsSet B p L w) (x : Wd) (hn : x.tn.size ≤ 9223372036854775807) : Calls Tryd.prog 103 #[.pointer (some ⟨p, 0, none⟩), .agg #[.int .i64 x.k, .int .i64 x.tk, .string x.tn]] w fun e w' => e = .returned (.bool (mayW L x)) ∧ Below w.heap.size w w' := by
  obtain ⟨k, tk, tn⟩ := x
  have HB := hid (below_alloc (Below.refl w.heap.size w) (.cells #[.int .i64 k, .int .i64 tk, .string tn] 35))
  have HMR := hid (mayRef_any (h.step HB.out) tk tn hn)
  have k1 := blk_new w (.cells #[.int .i64 k, .int .i64 tk, .string tn] 35)
  clear h
  by_cases hk : k = 0 ∨ k = 1 ∨ k = 2 ∨ k = 3 ∨ k = 4
  · have hm : mayW L ⟨k, tk, tn⟩ = (decide (tk = 0) && nmEq tn ⟨#[]⟩) := if_pos hk
    rw [hm]
    have e0 : (tk == 0) = decide (tk = 0) := by rw [Bool.eq_iff_iff]; simp
    have e1 := nm_nil tn
    clear hm HMR
    generalize decide (tk = 0) = b0 at *
    generalize nmEq tn ⟨#[]⟩ = b1 at *
    rcases hk with rfl | rfl | rfl | rfl | rfl <;> cases b0 <;> cases b1
    · go_enter Tryd.func103, Tryd.ntmps103
      go_upto_region 1 with fail
      have c0 := blk_cell k1 0
      have c1 := blk_cell k1 1
      have c2 := blk_cell k1 2
      clear k1
      generalize w.alloc (.cells #[.int .i64 0, .int .i64 tk, .string tn] 35) = w1 at *
      go_wp2
      go_ret
      exact ⟨rfl, HB.out⟩
    · go_enter Tryd.func103, Tryd.ntmps103
      go_upto_region 1 with fail
      have c0 := blk_cell k1 0
      have c1 := blk_cell k1 1
      have c2 := blk_cell k1 2
      clear k1
      generalize w.alloc (.cells #[.int .i64 0, .int .i64 tk, .string tn] 35) = w1 at *
      go_wp2
      go_ret
      exact ⟨rfl, HB.out⟩
    · go_enter Tryd.func103, Tryd.ntmps103
      go_upto_region 1 with fail
      have c0 := blk_cell k1 0
      have c1 := blk_cell k1 1
      have c2 := blk_cell k1 2
      clear k1
      generalize w.alloc (.cells #[.int .i64 0, .int .i64 tk, .string tn] 35) = w1 at *
      go_wp2
      go_ret
      exact ⟨rfl, HB.out⟩
    · go_enter Tryd.func103, Tryd.ntmps103
      go_upto_region 1 with fail
      have c0 := blk_cell k1 0
      have c1 := blk_cell k1 1
      have c2 := blk_cell k1 2
      clear k1
      generalize w.alloc (.cells #[.int .i64 0, .int .i64 tk, .string tn] 35) = w1 at *
      go_wp2
      go_ret
      exact ⟨rfl, HB.out⟩
    · go_enter Tryd.func103, Tryd.ntmps103
      go_upto_region 1 with fail
      have c0 := blk_cell k1 0
      have c1 := blk_cell k1 1
      have c2 := blk_cell k1 2
      clear k1
      generalize w.alloc (.cells #[.int .i64 1, .int .i64 tk, .string tn] 35) = w1 at *
      go_wp2
      go_ret
      exact ⟨rfl, HB.out⟩
    · go_enter Tryd.func103, Tryd.ntmps103
      go_upto_region 1 with fail
      have c0 := blk_cell k1 0
      have c1 := blk_cell k1 1
      have c2 := blk_cell k1 2
      clear k1
      generalize w.alloc (.cells #[.int .i64 1, .int .i64 tk, .string tn] 35) = w1 at *
      go_wp2
      go_ret
      exact ⟨rfl, HB.out⟩
    · go_enter Tryd.func103, Tryd.ntmps103
      go_upto_region 1 with fail
      have c0 := blk_cell k1 0
      have c1 := blk_cell k1 1
      have c2 := blk_cell k1 2
      clear k1
      generalize w.alloc (.cells #[.int .i64 1, .int .i64 tk, .string tn] 35) = w1 at *
      go_wp2
      go_ret
      exact ⟨rfl, HB.out⟩
    · go_enter Tryd.func103, Tryd.ntmps103
      go_upto_region 1 with fail
      have c0 := blk_cell k1 0
      have c1 := blk_cell k1 1
      have c2 := blk_cell k1 2
      clear k1
      generalize w.alloc (.cells #[.int .i64 1, .int .i64 tk, .string tn] 35) = w1 at *
      go_wp2
      go_ret
      exact ⟨rfl, HB.out⟩
    · go_enter Tryd.func103, Tryd.ntmps103
      go_upto_region 1 with fail
      have c0 := blk_cell k1 0
      have c1 := blk_cell k1 1
      have c2 := blk_cell k1 2
      clear k1
      generalize w.alloc (.cells #[.int .i64 2, .int .i64 tk, .string tn] 35) = w1 at *
      go_wp2
      go_ret
      exact ⟨rfl, HB.out⟩
    · go_enter Tryd.func103, Tryd.ntmps103
      go_upto_region 1 with fail
      have c0 := blk_cell k1 0
      have c1 := blk_cell k1 1
      have c2 := blk_cell k1 2
      clear k1
      generalize w.alloc (.cells #[.int .i64 2, .int .i64 tk, .string tn] 35) = w1 at *
      go_wp2
      go_ret
      exact ⟨rfl, HB.out⟩
    · go_enter Tryd.func103, Tryd.ntmps103
      go_upto_region 1 with fail
      have c0 := blk_cell k1 0
      have c1 := blk_cell k1 1
      have c2 := blk_cell k1 2
      clear k1
      generalize w.alloc (.cells #[.int .i64 2, .int .i64 tk, .string tn] 35) = w1 at *
      go_wp2
      go_ret
      exact ⟨rfl, HB.out⟩
    · go_enter Tryd.func103, Tryd.ntmps103
      go_upto_region 1 with fail
      have c0 := blk_cell k1 0
      have c1 := blk_cell k1 1
      have c2 := blk_cell k1 2
      clear k1
      generalize w.alloc (.cells #[.int .i64 2, .int .i64 tk, .string tn] 35) = w1 at *
      go_wp2
      go_ret
      exact ⟨rfl, HB.out⟩
    · go_enter Tryd.func103, Tryd.ntmps103
      go_upto_region 1 with fail
      have c0 := blk_cell k1 0
      have c1 := blk_cell k1 1
      have c2 := blk_cell k1 2
      clear k1
      generalize w.alloc (.cells #[.int .i64 3, .int .i64 tk, .string tn] 35) = w1 at *
      go_wp2
      go_ret
      exact ⟨rfl, HB.out⟩
    · go_enter Tryd.func103, Tryd.ntmps103
      go_upto_region 1 with fail
      have c0 := blk_cell k1 0
      have c1 := blk_cell k1 1
      have c2 := blk_cell k1 2
      clear k1
      generalize w.alloc (.cells #[.int .i64 3, .int .i64 tk, .string tn] 35) = w1 at *
      go_wp2
      go_ret
      exact ⟨rfl, HB.out⟩
    · go_enter Tryd.func103, Tryd.ntmps103
      go_upto_region 1 with fail
      have c0 := blk_cell k1 0
      have c1 := blk_cell k1 1
      have c2 := blk_cell k1 2
      clear k1
      generalize w.alloc (.cells #[.int .i64 3, .int .i64 tk, .string tn] 35) = w1 at *
      go_wp2
      go_ret
      exact ⟨rfl, HB.out⟩
    · go_enter Tryd.func103, Tryd.ntmps103
      go_upto_region 1 with fail
      have c0 := blk_cell k1 0
      have c1 := blk_cell k1 1
      have c2 := blk_cell k1 2
      clear k1
      generalize w.alloc (.cells #[.int .i64 3, .int .i64 tk, .string tn] 35) = w1 at *
      go_wp2
      go_ret
      exact ⟨rfl, HB.out⟩
    · go_enter Tryd.func103, Tryd.ntmps103
      go_upto_region 1 with fail
      have c0 := blk_cell k1 0
      have c1 := blk_cell k1 1
      have c2 := blk_cell k1 2
      clear k1
      generalize w.alloc (.cells #[.int .i64 4, .int .i64 tk, .string tn] 35) = w1 at *
      go_wp2
      go_ret
      exact ⟨rfl, HB.out⟩
    · go_enter Tryd.func103, Tryd.ntmps103
      go_upto_region 1 with fail
      have c0 := blk_cell k1 0
      have c1 := blk_cell k1 1
      have c2 := blk_cell k1 2
      clear k1
      generalize w.alloc (.cells #[.int .i64 4, .int .i64 tk, .string tn] 35) = w1 at *
      go_wp2
      go_ret
      exact ⟨rfl, HB.out⟩
    · go_enter Tryd.func103, Tryd.ntmps103
      go_upto_region 1 with fail
      have c0 := blk_cell k1 0
      have c1 := blk_cell k1 1
      have c2 := blk_cell k1 2
      clear k1
      generalize w.alloc (.cells #[.int .i64 4, .int .i64 tk, .string tn] 35) = w1 at *
      go_wp2
      go_ret
      exact ⟨rfl, HB.out⟩
    · go_enter Tryd.func103, Tryd.ntmps103
      go_upto_region 1 with fail
      have c0 := blk_cell k1 0
      have c1 := blk_cell k1 1
      have c2 := blk_cell k1 2
      clear k1
      generalize w.alloc (.cells #[.int .i64 4, .int .i64 tk, .string tn] 35) = w1 at *
      go_wp2
      go_ret
      exact ⟨rfl, HB.out⟩
  · by_cases h5 : k = 5
    · subst h5
      have hm : mayW L ⟨5, tk, tn⟩ = mayRefT L tk tn := by unfold mayW; rw [if_neg hk, if_pos rfl]
      rw [hm]
      clear hm hk
      generalize mayRefT L tk tn = v at *
      go_enter Tryd.func103, Tryd.ntmps103
      go_upto_region 1 with fail
      have c0 := blk_cell k1 0
      have c1 := blk_cell k1 1
      have c2 := blk_cell k1 2
      clear k1
      generalize w.alloc (.cells #[.int .i64 5, .int .i64 tk, .string tn] 35) = w1 at *
      go_wp2_with (go_at_call 52; refine HMR.out.mono ?_; rintro e w' ⟨rfl, hB⟩; have HB3 := hid (below_weaken HB.out HB.out.size hB); clear hB)
      go_ret
      exact ⟨rfl, HB3.out⟩
    · have hm : mayW L ⟨k, tk, tn⟩ = false := by unfold mayW; rw [if_neg hk, if_neg h5]
      rw [hm]
      have f0 : (k == 0) = false := by simp; omega
      have f1 : (k == 1) = false := by simp; omega
      have f2 : (k == 2) = false := by simp; omega
      have f3 : (k == 3) = false := by simp; omega
      have f4 : (k == 4) = false := by simp; omega
      have f5 : (k == 5) = false := by simp; omega
      clear hm HMR hk h5
      go_enter Tryd.func103, Tryd.ntmps103
      go_upto_region 1 with fail
      have c0 := blk_cell k1 0
      have c1 := blk_cell k1 1
      have c2 := blk_cell k1 2
      clear k1
      generalize w.alloc (.cells #[.int .i64 k, .int .i64 tk, .string tn] 35) = w1 at *
      go_wp2
      go_ret
      exact ⟨rfl, HB.out⟩
end
end Go.Proofs.YtbogcknkkbnfnaaDoor

