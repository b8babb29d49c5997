/- Texts laid as one: Od Oe. -/
import Derived.Test.YtbogcknkkbnfnaaDoorU1
import Derived.Deep.RegionLaw
/- The package word: together, Merge. Printed by mkod.py. -/
namespace Go.Proofs.YtbogcknkkbnfnaaDoor
open Go.RowKit Go.Proofs.YtbogcknkkbnfnaaDoorW.PrintWords Go.Maps Go.WideMaps

/-- The type above all lies in its block. -/
def Wob (w : World) : Prop := ∃ t fr, w.heap[1]? = some (.cells #[.int .i64 3, .string ⟨#[79, 98, 106, 101, 99, 116]⟩] t fr)
theorem Wob.lt {w : World} (h : Wob w) : 1 < w.heap.size := by obtain ⟨t, fr, h⟩ := h; exact (Array.getElem?_eq_some_iff.1 h).1
theorem Wob.below {B : Nat} {w w' : World} (h : Wob w) (hB : 1 < B) (hb : Below B w w') : Wob w' := by
  obtain ⟨t, fr, hg⟩ := h
  exact ⟨t, fr, (hb.block _ hB).trans hg⟩
/-- The type to which two come. -/
def togK (ak bk : Int) (an bn : ByteArray) : Int := if ak = bk ∧ an = bn then ak else if ak ≠ bk ∨ an = ⟨#[]⟩ then 3 else ak
def togN (L : List Cl) (ak bk : Int) (an bn : ByteArray) : ByteArray := if ak = bk ∧ an = bn then an else if ak ≠ bk ∨ an = ⟨#[]⟩ then ⟨#[79, 98, 106, 101, 99, 116]⟩ else (L.getD (commonOf L (numI L an).toNat (numI L bn).toNat).toNat zCl).name
section
variable {B p : Nat} {L : List Cl} {w : World}
theorem IsSet.common_nat (h : IsSet B p L w) {a b : Nat} (ha : a < L.length) (hb : b < L.length) : ∃ c : Nat, commonOf L a b = c ∧ c < L.length := by
  obtain ⟨c, h1, h2, _⟩ := h.good.common_some ha hb
  exact ⟨c, h1, h.good.chain_lt ha h2⟩
theorem IsSet.num_lt (h : IsSet B p L w) (s : ByteArray) : (numI L s).toNat < L.length ∧ ((numI L s).toNat : Int) = numI L s := by
  have := numI_range L s (by have := h.big; omega)
  omega
set_option maxRecDepth 100000 in
set_option maxHeartbeats 8000000 in
theorem together_any (h : IsSet B p L w) (hO : Wob w) (ak : Int) (an : ByteArray) (bk : Int) (bn : ByteArray) (hA : an.size ≤ 9223372036854775807) (hB : bn.size ≤ 9223372036854775807) : Calls Tryd.prog 104 #[.pointer (some ⟨p, 0, none⟩), .agg #[.int .i64 ak, .string an], .agg #[.int .i64 bk, .string bn]] w fun e w' => e = .returned (.agg #[.int .i64 (togK ak bk an bn), .string (togN L ak bk an bn)]) ∧ Below w.heap.size w w' := by
  have HB2 := hid (below_alloc (below_alloc (below_alloc (Below.refl w.heap.size w) (.cells #[.int .i64 ak, .string an] 24)) (.cells #[.int .i64 bk, .string bn] 24)) (.cells #[.int .i64 0, .string ⟨#[]⟩] 24))
  have k1 := blk_alloc (blk_alloc (blk_new w (.cells #[.int .i64 ak, .string an] 24)) (.cells #[.int .i64 bk, .string bn] 24)) (.cells #[.int .i64 0, .string ⟨#[]⟩] 24)
  have k2 := blk_alloc (blk_new (w.alloc (.cells #[.int .i64 ak, .string an] 24)) (.cells #[.int .i64 bk, .string bn] 24)) (.cells #[.int .i64 0, .string ⟨#[]⟩] 24)
  have k3 := blk_new ((w.alloc (.cells #[.int .i64 ak, .string an] 24)).alloc (.cells #[.int .i64 bk, .string bn] 24)) (.cells #[.int .i64 0, .string ⟨#[]⟩] 24)
  simp only [World.size_alloc] at k2 k3
  have K1 := hid k1
  have K2 := hid k2
  have K3 := hid k3
  have HS := hid (h.step HB2.out)
  obtain ⟨tO, fO, hob⟩ := hO.below hO.lt (HB2.out.mono (Nat.le_of_lt_succ (Nat.lt_succ_of_le (Nat.le_refl _))))
  have HOB := hid hob
  have e5 : (an.toList == bn.toList) = nmEq an bn := nm_beq an bn
  have e7 := nm_nil an
  have HAs := hid hA
  have HBs := hid hB
  clear k1 k2 k3 h hO hA hB hob
  by_cases h3 : ak = bk ∧ an = bn
  · have e4 : (ak == bk) = true := by simp [h3.1]
    rw [show nmEq an bn = true from nmEq_iff.2 h3.2] at e5
    have HK := hid (show togK ak bk an bn = ak from if_pos h3)
    have HT := hid (show togN L ak bk an bn = an from if_pos h3)
    rw [HK.out, HT.out]
    clear e7 h3
    go_enter Tryd.func104, Tryd.ntmps104
    go_upto_region 1 with fail
    have c0 := blk_cell K1.out 0
    have c1 := blk_cell K1.out 1
    have d0 := blk_cell K2.out 0
    have d1 := blk_cell K2.out 1
    have r0 := blk_cell K3.out 0
    have r1 := blk_cell K3.out 1
    have f0 := blk_frozen K3.out 0
    have f1 := blk_frozen K3.out 1
    generalize ((w.alloc (.cells #[.int .i64 ak, .string an] 24)).alloc (.cells #[.int .i64 bk, .string bn] 24)).alloc (.cells #[.int .i64 0, .string ⟨#[]⟩] 24) = w3 at *
    go_wp2
    refine bodyPost_ret (results_single rfl (.cell (w.heap.size + 1 + 1) 24 #[.int .i64 ak, .string an] (0, 0) _ rfl (blk_put (blk_put K3.out 0 _ rfl) 1 _ rfl) Tryd.underlying24 rfl (by kernel_rfl) .nil)) rfl ?_
    exact ⟨rfl, (HB2.out.setCell (by show w.heap.size ≤ w.heap.size + 1 + 1; omega) _).setCell (by show w.heap.size ≤ w.heap.size + 1 + 1; omega) _⟩
  · by_cases h5 : ak = bk
    · have e4 : (ak == bk) = true := by simp [h5]
      have e9 : (ak != bk) = false := by simp [h5]
      rw [show nmEq an bn = false from nmEq_ne.2 (fun e => h3 ⟨h5, e⟩)] at e5
      by_cases h6 : an = ⟨#[]⟩
      · rw [show nmEq an ⟨#[]⟩ = true from nmEq_iff.2 h6] at e7
        have HK := hid (show togK ak bk an bn = 3 from by unfold togK; rw [if_neg h3, if_pos (.inr h6)])
        have HT := hid (show togN L ak bk an bn = ⟨#[79, 98, 106, 101, 99, 116]⟩ from by unfold togN; rw [if_neg h3, if_pos (.inr h6)])
        rw [HK.out, HT.out]
        clear h3 h5 h6
        go_enter Tryd.func104, Tryd.ntmps104
        go_upto_region 1 with fail
        have c0 := blk_cell K1.out 0
        have c1 := blk_cell K1.out 1
        have d0 := blk_cell K2.out 0
        have d1 := blk_cell K2.out 1
        have r0 := blk_cell K3.out 0
        have r1 := blk_cell K3.out 1
        have f0 := blk_frozen K3.out 0
        have f1 := blk_frozen K3.out 1
        generalize ((w.alloc (.cells #[.int .i64 ak, .string an] 24)).alloc (.cells #[.int .i64 bk, .string bn] 24)).alloc (.cells #[.int .i64 0, .string ⟨#[]⟩] 24) = w3 at *
        go_wp2_with (refine wpList_load_row rfl 24 _ rfl 1 rfl tO _ fO _ HOB.out Tryd.underlying24 rfl (by kernel_rfl) ?_)
        refine bodyPost_ret (results_single rfl (.cell (w.heap.size + 1 + 1) 24 #[.int .i64 3, .string ⟨#[79, 98, 106, 101, 99, 116]⟩] (0, 0) _ rfl (blk_put (blk_put K3.out 0 _ rfl) 1 _ rfl) Tryd.underlying24 rfl (by kernel_rfl) .nil)) rfl ?_
        exact ⟨rfl, (HB2.out.setCell (by show w.heap.size ≤ w.heap.size + 1 + 1; omega) _).setCell (by show w.heap.size ≤ w.heap.size + 1 + 1; omega) _⟩
      · rw [show nmEq an ⟨#[]⟩ = false from nmEq_ne.2 h6] at e7
        have HK := hid (show togK ak bk an bn = ak from by unfold togK; rw [if_neg h3, if_neg (fun hh => hh.elim (fun h => h h5) h6)])
        have HT := hid (show togN L ak bk an bn = (L.getD (commonOf L (numI L an).toNat (numI L bn).toNat).toNat zCl).name from by unfold togN; rw [if_neg h3, if_neg (fun hh => hh.elim (fun h => h h5) h6)])
        rw [HK.out, HT.out]
        obtain ⟨hx1, hx2⟩ := HS.out.num_lt an
        obtain ⟨hy1, hy2⟩ := HS.out.num_lt bn
        obtain ⟨cm, hc1, hc2⟩ := HS.out.common_nat hx1 hy1
        have HN1 := hid (number_any HS.out an HAs.out)
        have HN2 := hid (number_any HS.out bn HBs.out)
        have HCO := hid (fun (W : World) (hW : Below (((w.alloc (.cells #[.int .i64 ak, .string an] 24)).alloc (.cells #[.int .i64 bk, .string bn] 24)).alloc (.cells #[.int .i64 0, .string ⟨#[]⟩] 24)).heap.size (((w.alloc (.cells #[.int .i64 ak, .string an] 24)).alloc (.cells #[.int .i64 bk, .string bn] 24)).alloc (.cells #[.int .i64 0, .string ⟨#[]⟩] 24)) W) => (show Calls Tryd.prog 38 #[.pointer (some ⟨p, 0, none⟩), .int .i64 (numI L an), .int .i64 (numI L bn)] W fun e w' => e = .returned (.int .i64 cm) ∧ Below W.heap.size W w' from by
          have := common_in (HS.out.step hW) hx1 hy1
          rw [hx2, hy2, hc1] at this
          exact this))
        rw [hc1, Int.toNat_natCast]
        have HNA := hid (fun (W : World) (hW : Below (((w.alloc (.cells #[.int .i64 ak, .string an] 24)).alloc (.cells #[.int .i64 bk, .string bn] 24)).alloc (.cells #[.int .i64 0, .string ⟨#[]⟩] 24)).heap.size (((w.alloc (.cells #[.int .i64 ak, .string an] 24)).alloc (.cells #[.int .i64 bk, .string bn] 24)).alloc (.cells #[.int .i64 0, .string ⟨#[]⟩] 24)) W) => name_in (HS.out.step hW) hc2)
        have HNU := hid (fun (s : ByteArray) (z : Int) (b : Bool) (q : (s = an ∧ z = numI L an ∧ b = (numOf L an).isSome) ∨ (s = bn ∧ z = numI L bn ∧ b = (numOf L bn).isSome)) => (show Calls Tryd.prog 35 #[.pointer (some ⟨p, 0, none⟩), .string s] (((w.alloc (.cells #[.int .i64 ak, .string an] 24)).alloc (.cells #[.int .i64 bk, .string bn] 24)).alloc (.cells #[.int .i64 0, .string ⟨#[]⟩] 24)) fun e w' => e = .returned (.tuple #[.int .i64 z, .bool b]) ∧ w' = (((w.alloc (.cells #[.int .i64 ak, .string an] 24)).alloc (.cells #[.int .i64 bk, .string bn] 24)).alloc (.cells #[.int .i64 0, .string ⟨#[]⟩] 24)) from by
          rcases q with ⟨rfl, rfl, rfl⟩ | ⟨rfl, rfl, rfl⟩
          · exact HN1.out
          · exact HN2.out))
        clear HN1 HN2 hx2 hy2 hc1 hx1 hy1 h3 h5 h6
        generalize (L.getD cm zCl).name = nc at *
        generalize numI L an = za at *
        generalize numI L bn = zb at *
        generalize (numOf L an).isSome = ba at *
        generalize (numOf L bn).isSome = bb at *
        go_enter Tryd.func104, Tryd.ntmps104
        go_upto_region 1 with fail
        have c0 := blk_cell K1.out 0
        have c1 := blk_cell K1.out 1
        have d0 := blk_cell K2.out 0
        have d1 := blk_cell K2.out 1
        have r0 := blk_cell K3.out 0
        have r1 := blk_cell K3.out 1
        have f0 := blk_frozen K3.out 0
        have f1 := blk_frozen K3.out 1
        generalize ((w.alloc (.cells #[.int .i64 ak, .string an] 24)).alloc (.cells #[.int .i64 bk, .string bn] 24)).alloc (.cells #[.int .i64 0, .string ⟨#[]⟩] 24) = w3 at *
        go_upto_region 7 with (go_at_call 35; refine (HNU.out _ _ _ (by first | exact .inl ⟨rfl, rfl, rfl⟩ | exact .inr ⟨rfl, rfl, rfl⟩)).mono ?_; rintro e w' ⟨rfl, hw⟩; obtain rfl := hw.symm)
        have HCD := hid (HCO.out w3.drew (below_drew (Below.refl w3.heap.size w3)))
        go_region_law (first
          | (go_simp; refine HCD.out.mono ?_; rintro e w4 ⟨rfl, hB4⟩; have HB4 := hid (below_weaken (below_drew (Below.refl w3.heap.size w3)) (Nat.le_refl _) hB4); clear hB4; have g0 := blk_cell (blk_below K1.out HB4.out) 0; dsimp only)
          | (go_simp; refine (HNA.out _ HB4.out).mono ?_; rintro e w5 ⟨rfl, hw5⟩; obtain rfl := hw5.symm; have r4 := blk_cell (blk_below K3.out HB4.out) 0; have r5 := blk_cell (blk_below K3.out HB4.out) 1; have f4 := blk_frozen (blk_below K3.out HB4.out) 0; have f5 := blk_frozen (blk_below K3.out HB4.out) 1; dsimp only))
        all_goals
          go_wp2
          refine bodyPost_ret (results_single rfl (.cell (w.heap.size + 1 + 1) 24 #[.int .i64 ak, .string nc] (0, 0) _ rfl (blk_put (blk_put (blk_below K3.out HB4.out) 0 _ rfl) 1 _ rfl) Tryd.underlying24 rfl (by kernel_rfl) .nil)) rfl ?_
          exact ⟨rfl, ((below_weaken HB2.out HB2.out.size HB4.out).setCell (by show w.heap.size ≤ w.heap.size + 1 + 1; omega) _).setCell (by show w.heap.size ≤ w.heap.size + 1 + 1; omega) _⟩
    · have e4 : (ak == bk) = false := by simp [h5]
      have e9 : (ak != bk) = true := by simp [h5]
      have HK := hid (show togK ak bk an bn = 3 from by unfold togK; rw [if_neg h3, if_pos (.inl h5)])
      have HT := hid (show togN L ak bk an bn = ⟨#[79, 98, 106, 101, 99, 116]⟩ from by unfold togN; rw [if_neg h3, if_pos (.inl h5)])
      rw [HK.out, HT.out]
      clear h3 h5 e5 e7
      go_enter Tryd.func104, Tryd.ntmps104
      go_upto_region 1 with fail
      have c0 := blk_cell K1.out 0
      have c1 := blk_cell K1.out 1
      have d0 := blk_cell K2.out 0
      have d1 := blk_cell K2.out 1
      have r0 := blk_cell K3.out 0
      have r1 := blk_cell K3.out 1
      have f0 := blk_frozen K3.out 0
      have f1 := blk_frozen K3.out 1
      generalize ((w.alloc (.cells #[.int .i64 ak, .string an] 24)).alloc (.cells #[.int .i64 bk, .string bn] 24)).alloc (.cells #[.int .i64 0, .string ⟨#[]⟩] 24) = w3 at *
      go_wp2_with (refine wpList_load_row rfl 24 _ rfl 1 rfl tO _ fO _ HOB.out Tryd.underlying24 rfl (by kernel_rfl) ?_)
      refine bodyPost_ret (results_single rfl (.cell (w.heap.size + 1 + 1) 24 #[.int .i64 3, .string ⟨#[79, 98, 106, 101, 99, 116]⟩] (0, 0) _ rfl (blk_put (blk_put K3.out 0 _ rfl) 1 _ rfl) Tryd.underlying24 rfl (by kernel_rfl) .nil)) rfl ?_
      exact ⟨rfl, (HB2.out.setCell (by show w.heap.size ≤ w.heap.size + 1 + 1; omega) _).setCell (by show w.heap.size ≤ w.heap.size + 1 + 1; omega) _⟩
end
end Go.Proofs.YtbogcknkkbnfnaaDoor

/- The package word: Merge. Printed by mkod.py. -/
namespace Go.Proofs.YtbogcknkkbnfnaaDoor
open Go.RowKit Go.Proofs.YtbogcknkkbnfnaaDoorW.PrintWords Go.Maps Go.WideMaps

/-- What two words come to. -/
def mrgW (L : List Cl) (a b : Wd) : Wd :=
  if mayW L a = false ∨ mayW L b = false then ⟨0, 0, ⟨#[]⟩⟩
  else if a.k = b.k ∧ a.tk = b.tk ∧ a.tn = b.tn then a
  else if a.k = 4 ∧ b.k = 5 then b
  else if a.k = 5 ∧ b.k = 4 then a
  else if a.k = 5 ∧ b.k = 5 then ⟨5, togK a.tk b.tk a.tn b.tn, togN L a.tk b.tk a.tn b.tn⟩
  else ⟨0, 0, ⟨#[]⟩⟩
section
variable {B p : Nat} {L : List Cl} {w : World}
set_option maxRecDepth 100000 in
set_option maxHeartbeats 0 in
theorem merge_any (h : IsSet B p L w) (hO : Wob w) (a b : Wd) (hA : a.tn.size ≤ 9223372036854775807) (hB : b.tn.size ≤ 9223372036854775807) : Calls Tryd.prog 49 #[.pointer (some ⟨p, 0, none⟩), .agg #[.int .i64 a.k, .int .i64 a.tk, .string a.tn], .agg #[.int .i64 b.k, .int .i64 b.tk, .string b.tn]] w fun e w' => e = .returned (.agg #[.int .i64 (mrgW L a b).k, .int .i64 (mrgW L a b).tk, .string (mrgW L a b).tn]) ∧ Below w.heap.size w w' := by
  obtain ⟨ak, at', an⟩ := a
  obtain ⟨bk, bt, bn⟩ := b
  have HB2 := hid (below_alloc (below_alloc (below_alloc (Below.refl w.heap.size w) (.cells #[.int .i64 ak, .int .i64 at', .string an] 35)) (.cells #[.int .i64 bk, .int .i64 bt, .string bn] 35)) (.cells #[.int .i64 0, .int .i64 0, .string ⟨#[]⟩] 35))
  have k1 := blk_alloc (blk_alloc (blk_new w (.cells #[.int .i64 ak, .int .i64 at', .string an] 35)) (.cells #[.int .i64 bk, .int .i64 bt, .string bn] 35)) (.cells #[.int .i64 0, .int .i64 0, .string ⟨#[]⟩] 35)
  have k2 := blk_alloc (blk_new (w.alloc (.cells #[.int .i64 ak, .int .i64 at', .string an] 35)) (.cells #[.int .i64 bk, .int .i64 bt, .string bn] 35)) (.cells #[.int .i64 0, .int .i64 0, .string ⟨#[]⟩] 35)
  have k3 := blk_new ((w.alloc (.cells #[.int .i64 ak, .int .i64 at', .string an] 35)).alloc (.cells #[.int .i64 bk, .int .i64 bt, .string bn] 35)) (.cells #[.int .i64 0, .int .i64 0, .string ⟨#[]⟩] 35)
  simp only [World.size_alloc] at k2 k3
  have K1 := hid k1
  have K2 := hid k2
  have K3 := hid k3
  have HS := hid (h.step HB2.out)
  have HLE := hid (len_any HS.out)
  have hbig := h.big
  obtain ⟨w3, hw3⟩ : ∃ X, ((w.alloc (.cells #[.int .i64 ak, .int .i64 at', .string an] 35)).alloc (.cells #[.int .i64 bk, .int .i64 bt, .string bn] 35)).alloc (.cells #[.int .i64 0, .int .i64 0, .string ⟨#[]⟩] 35) = X := ⟨_, rfl⟩
  have HW3 := hid hw3
  rw [hw3] at HB2 K1 K2 K3 HS HLE
  have HO := hid (fun (W : World) (hW : Below w3.heap.size w3 W) => (hO.below hO.lt (HB2.out.mono (Nat.le_of_lt_succ (Nat.lt_succ_of_le (Nat.le_refl _))))).below (Nat.lt_of_lt_of_le hO.lt HB2.out.size) hW)
  obtain ⟨ma, hma⟩ : ∃ x, mayW L ⟨ak, at', an⟩ = x := ⟨_, rfl⟩
  obtain ⟨mb, hmb⟩ : ∃ x, mayW L ⟨bk, bt, bn⟩ = x := ⟨_, rfl⟩
  have HMY := hid (fun (k tk : Int) (n : ByteArray) (v : Bool) (W : World) (hW : Below w3.heap.size w3 W) (q : mayW L ⟨k, tk, n⟩ = v ∧ n.size ≤ 9223372036854775807) => (show Calls Tryd.prog 103 #[.pointer (some ⟨p, 0, none⟩), .agg #[.int .i64 k, .int .i64 tk, .string n]] W fun e w' => e = .returned (.bool v) ∧ Below W.heap.size W w' from by
    have := may_any (HS.out.step hW) ⟨k, tk, n⟩ q.2
    rw [q.1] at this
    exact this))
  have HTG := hid (fun (W : World) (hW : Below w3.heap.size w3 W) => together_any (HS.out.step hW) (HO.out W hW) at' an bt bn hA hB)
  have Q1 := hid (show mayW L ⟨ak, at', an⟩ = ma ∧ an.size ≤ 9223372036854775807 from ⟨hma, hA⟩)
  have Q2 := hid (show mayW L ⟨bk, bt, bn⟩ = mb ∧ bn.size ≤ 9223372036854775807 from ⟨hmb, hB⟩)
  clear h hA hB k1 k2 k3 hO hw3
  generalize L.length = N at *
  have eN : ((N : Int) == 0) = false := by simp; omega
  cases ma with
  | false =>
    have HV := hid (show mrgW L ⟨ak, at', an⟩ ⟨bk, bt, bn⟩ = ⟨0, 0, ⟨#[]⟩⟩ from if_pos (.inl hma))
    rw [HV.out]
    try clear ha
    try clear hb'
    try clear h2
    try clear h1
    try clear h3
    go_enter Tryd.func49, Tryd.ntmps49
    go_upto_region 1 with fail
    rw [show ((w.alloc (.cells #[.int .i64 ak, .int .i64 at', .string an] 35)).alloc (.cells #[.int .i64 bk, .int .i64 bt, .string bn] 35)).alloc (.cells #[.int .i64 0, .int .i64 0, .string ⟨#[]⟩] 35) = w3 from HW3.out]
    have hb := Below.refl w3.heap.size w3
    have c0 := blk_cell (blk_below K1.out hb) 0
    have c1 := blk_cell (blk_below K1.out hb) 1
    have c2 := blk_cell (blk_below K1.out hb) 2
    have d0 := blk_cell (blk_below K2.out hb) 0
    have d1 := blk_cell (blk_below K2.out hb) 1
    have d2 := blk_cell (blk_below K2.out hb) 2
    have r0 := blk_cell (blk_below K3.out hb) 0
    have r1 := blk_cell (blk_below K3.out hb) 1
    have r2 := blk_cell (blk_below K3.out hb) 2
    have f0 := blk_frozen (blk_below K3.out hb) 0
    have f1 := blk_frozen (blk_below K3.out hb) 1
    have f2 := blk_frozen (blk_below K3.out hb) 2
    have HBz := hid hb
    clear hb
    go_wp2_with (first
      | (go_at_call 18; refine HLE.out.mono ?_; rintro e w' ⟨rfl, hw⟩; obtain rfl := hw.symm)
      | (go_at_call 103; refine (HMY.out _ _ _ _ _ (by first | exact HBz.out | assumption) (by first | exact Q1.out | exact Q2.out)).mono ?_; rintro e w' ⟨rfl, hB⟩; have hb := bel_tr (a := w3) (by first | exact HBz.out | assumption) hB; clear hB; have c0 := blk_cell (blk_below K1.out hb) 0; have c1 := blk_cell (blk_below K1.out hb) 1; have c2 := blk_cell (blk_below K1.out hb) 2; have d0 := blk_cell (blk_below K2.out hb) 0; have d1 := blk_cell (blk_below K2.out hb) 1; have d2 := blk_cell (blk_below K2.out hb) 2; have r0 := blk_cell (blk_below K3.out hb) 0; have r1 := blk_cell (blk_below K3.out hb) 1; have r2 := blk_cell (blk_below K3.out hb) 2; have f0 := blk_frozen (blk_below K3.out hb) 0; have f1 := blk_frozen (blk_below K3.out hb) 1; have f2 := blk_frozen (blk_below K3.out hb) 2)
      | (go_at_call 104; refine (HTG.out _ (by assumption)).mono ?_; rintro e w' ⟨rfl, hB⟩; have hb := bel_tr (a := w3) (by assumption) hB; clear hB; have c0 := blk_cell (blk_below K1.out hb) 0; have c1 := blk_cell (blk_below K1.out hb) 1; have c2 := blk_cell (blk_below K1.out hb) 2; have d0 := blk_cell (blk_below K2.out hb) 0; have d1 := blk_cell (blk_below K2.out hb) 1; have d2 := blk_cell (blk_below K2.out hb) 2; have r0 := blk_cell (blk_below K3.out hb) 0; have r1 := blk_cell (blk_below K3.out hb) 1; have r2 := blk_cell (blk_below K3.out hb) 2; have f0 := blk_frozen (blk_below K3.out hb) 0; have f1 := blk_frozen (blk_below K3.out hb) 1; have f2 := blk_frozen (blk_below K3.out hb) 2))
    refine bodyPost_ret (results_single rfl (.cell (w.heap.size + 1 + 1) 35 #[.int .i64 (0), .int .i64 (0), .string (⟨#[]⟩)] (0, 0) _ rfl (blk_put (blk_put (blk_put (blk_below K3.out hb) 0 _ rfl) 1 _ rfl) 2 _ rfl) Tryd.underlying35 rfl (by kernel_rfl) .nil)) rfl ?_
    exact ⟨rfl, (((below_weaken HB2.out HB2.out.size hb).setCell (by show w.heap.size ≤ w.heap.size + 1 + 1; omega) _).setCell (by show w.heap.size ≤ w.heap.size + 1 + 1; omega) _).setCell (by show w.heap.size ≤ w.heap.size + 1 + 1; omega) _⟩
  | true =>
    cases mb with
    | false =>
      have HV := hid (show mrgW L ⟨ak, at', an⟩ ⟨bk, bt, bn⟩ = ⟨0, 0, ⟨#[]⟩⟩ from if_pos (.inr hmb))
      rw [HV.out]
      try clear ha
      try clear hb'
      try clear h2
      try clear h1
      try clear h3
      go_enter Tryd.func49, Tryd.ntmps49
      go_upto_region 1 with fail
      rw [show ((w.alloc (.cells #[.int .i64 ak, .int .i64 at', .string an] 35)).alloc (.cells #[.int .i64 bk, .int .i64 bt, .string bn] 35)).alloc (.cells #[.int .i64 0, .int .i64 0, .string ⟨#[]⟩] 35) = w3 from HW3.out]
      have hb := Below.refl w3.heap.size w3
      have c0 := blk_cell (blk_below K1.out hb) 0
      have c1 := blk_cell (blk_below K1.out hb) 1
      have c2 := blk_cell (blk_below K1.out hb) 2
      have d0 := blk_cell (blk_below K2.out hb) 0
      have d1 := blk_cell (blk_below K2.out hb) 1
      have d2 := blk_cell (blk_below K2.out hb) 2
      have r0 := blk_cell (blk_below K3.out hb) 0
      have r1 := blk_cell (blk_below K3.out hb) 1
      have r2 := blk_cell (blk_below K3.out hb) 2
      have f0 := blk_frozen (blk_below K3.out hb) 0
      have f1 := blk_frozen (blk_below K3.out hb) 1
      have f2 := blk_frozen (blk_below K3.out hb) 2
      have HBz := hid hb
      clear hb
      go_wp2_with (first
        | (go_at_call 18; refine HLE.out.mono ?_; rintro e w' ⟨rfl, hw⟩; obtain rfl := hw.symm)
        | (go_at_call 103; refine (HMY.out _ _ _ _ _ (by first | exact HBz.out | assumption) (by first | exact Q1.out | exact Q2.out)).mono ?_; rintro e w' ⟨rfl, hB⟩; have hb := bel_tr (a := w3) (by first | exact HBz.out | assumption) hB; clear hB; have c0 := blk_cell (blk_below K1.out hb) 0; have c1 := blk_cell (blk_below K1.out hb) 1; have c2 := blk_cell (blk_below K1.out hb) 2; have d0 := blk_cell (blk_below K2.out hb) 0; have d1 := blk_cell (blk_below K2.out hb) 1; have d2 := blk_cell (blk_below K2.out hb) 2; have r0 := blk_cell (blk_below K3.out hb) 0; have r1 := blk_cell (blk_below K3.out hb) 1; have r2 := blk_cell (blk_below K3.out hb) 2; have f0 := blk_frozen (blk_below K3.out hb) 0; have f1 := blk_frozen (blk_below K3.out hb) 1; have f2 := blk_frozen (blk_below K3.out hb) 2)
        | (go_at_call 104; refine (HTG.out _ (by assumption)).mono ?_; rintro e w' ⟨rfl, hB⟩; have hb := bel_tr (a := w3) (by assumption) hB; clear hB; have c0 := blk_cell (blk_below K1.out hb) 0; have c1 := blk_cell (blk_below K1.out hb) 1; have c2 := blk_cell (blk_below K1.out hb) 2; have d0 := blk_cell (blk_below K2.out hb) 0; have d1 := blk_cell (blk_below K2.out hb) 1; have d2 := blk_cell (blk_below K2.out hb) 2; have r0 := blk_cell (blk_below K3.out hb) 0; have r1 := blk_cell (blk_below K3.out hb) 1; have r2 := blk_cell (blk_below K3.out hb) 2; have f0 := blk_frozen (blk_below K3.out hb) 0; have f1 := blk_frozen (blk_below K3.out hb) 1; have f2 := blk_frozen (blk_below K3.out hb) 2))
      refine bodyPost_ret (results_single rfl (.cell (w.heap.size + 1 + 1) 35 #[.int .i64 (0), .int .i64 (0), .string (⟨#[]⟩)] (0, 0) _ rfl (blk_put (blk_put (blk_put (blk_below K3.out hb) 0 _ rfl) 1 _ rfl) 2 _ rfl) Tryd.underlying35 rfl (by kernel_rfl) .nil)) rfl ?_
      exact ⟨rfl, (((below_weaken HB2.out HB2.out.size hb).setCell (by show w.heap.size ≤ w.heap.size + 1 + 1; omega) _).setCell (by show w.heap.size ≤ w.heap.size + 1 + 1; omega) _).setCell (by show w.heap.size ≤ w.heap.size + 1 + 1; omega) _⟩
    | true =>
      have HN := hid (show ¬ (mayW L ⟨ak, at', an⟩ = false ∨ mayW L ⟨bk, bt, bn⟩ = false) from by rw [hma, hmb]; simp)
      have e5 : (an.toList == bn.toList) = nmEq an bn := nm_beq an bn
      by_cases h3 : ak = bk ∧ at' = bt ∧ an = bn
      · have e1 : (ak == bk) = true := by simp [h3.1]
        have e2 : (at' == bt) = true := by simp [h3.2.1]
        rw [show nmEq an bn = true from nmEq_iff.2 h3.2.2] at e5
        have HV := hid (show mrgW L ⟨ak, at', an⟩ ⟨bk, bt, bn⟩ = ⟨ak, at', an⟩ from by unfold mrgW; rw [if_neg HN.out, if_pos h3])
        rw [HV.out]
        try clear ha
        try clear hb'
        try clear h2
        try clear h1
        try clear h3
        go_enter Tryd.func49, Tryd.ntmps49
        go_upto_region 1 with fail
        rw [show ((w.alloc (.cells #[.int .i64 ak, .int .i64 at', .string an] 35)).alloc (.cells #[.int .i64 bk, .int .i64 bt, .string bn] 35)).alloc (.cells #[.int .i64 0, .int .i64 0, .string ⟨#[]⟩] 35) = w3 from HW3.out]
        have hb := Below.refl w3.heap.size w3
        have c0 := blk_cell (blk_below K1.out hb) 0
        have c1 := blk_cell (blk_below K1.out hb) 1
        have c2 := blk_cell (blk_below K1.out hb) 2
        have d0 := blk_cell (blk_below K2.out hb) 0
        have d1 := blk_cell (blk_below K2.out hb) 1
        have d2 := blk_cell (blk_below K2.out hb) 2
        have r0 := blk_cell (blk_below K3.out hb) 0
        have r1 := blk_cell (blk_below K3.out hb) 1
        have r2 := blk_cell (blk_below K3.out hb) 2
        have f0 := blk_frozen (blk_below K3.out hb) 0
        have f1 := blk_frozen (blk_below K3.out hb) 1
        have f2 := blk_frozen (blk_below K3.out hb) 2
        have HBz := hid hb
        clear hb
        go_wp2_with (first
          | (go_at_call 18; refine HLE.out.mono ?_; rintro e w' ⟨rfl, hw⟩; obtain rfl := hw.symm)
          | (go_at_call 103; refine (HMY.out _ _ _ _ _ (by first | exact HBz.out | assumption) (by first | exact Q1.out | exact Q2.out)).mono ?_; rintro e w' ⟨rfl, hB⟩; have hb := bel_tr (a := w3) (by first | exact HBz.out | assumption) hB; clear hB; have c0 := blk_cell (blk_below K1.out hb) 0; have c1 := blk_cell (blk_below K1.out hb) 1; have c2 := blk_cell (blk_below K1.out hb) 2; have d0 := blk_cell (blk_below K2.out hb) 0; have d1 := blk_cell (blk_below K2.out hb) 1; have d2 := blk_cell (blk_below K2.out hb) 2; have r0 := blk_cell (blk_below K3.out hb) 0; have r1 := blk_cell (blk_below K3.out hb) 1; have r2 := blk_cell (blk_below K3.out hb) 2; have f0 := blk_frozen (blk_below K3.out hb) 0; have f1 := blk_frozen (blk_below K3.out hb) 1; have f2 := blk_frozen (blk_below K3.out hb) 2)
          | (go_at_call 104; refine (HTG.out _ (by assumption)).mono ?_; rintro e w' ⟨rfl, hB⟩; have hb := bel_tr (a := w3) (by assumption) hB; clear hB; have c0 := blk_cell (blk_below K1.out hb) 0; have c1 := blk_cell (blk_below K1.out hb) 1; have c2 := blk_cell (blk_below K1.out hb) 2; have d0 := blk_cell (blk_below K2.out hb) 0; have d1 := blk_cell (blk_below K2.out hb) 1; have d2 := blk_cell (blk_below K2.out hb) 2; have r0 := blk_cell (blk_below K3.out hb) 0; have r1 := blk_cell (blk_below K3.out hb) 1; have r2 := blk_cell (blk_below K3.out hb) 2; have f0 := blk_frozen (blk_below K3.out hb) 0; have f1 := blk_frozen (blk_below K3.out hb) 1; have f2 := blk_frozen (blk_below K3.out hb) 2))
        refine bodyPost_ret (results_single rfl (.cell (w.heap.size + 1 + 1) 35 #[.int .i64 (ak), .int .i64 (at'), .string (an)] (0, 0) _ rfl (blk_put (blk_put (blk_put (blk_below K3.out hb) 0 _ rfl) 1 _ rfl) 2 _ rfl) Tryd.underlying35 rfl (by kernel_rfl) .nil)) rfl ?_
        exact ⟨rfl, (((below_weaken HB2.out HB2.out.size hb).setCell (by show w.heap.size ≤ w.heap.size + 1 + 1; omega) _).setCell (by show w.heap.size ≤ w.heap.size + 1 + 1; omega) _).setCell (by show w.heap.size ≤ w.heap.size + 1 + 1; omega) _⟩
      · have HE := hid h3
        have hka : ak = 4 ∨ ak = 5 ∨ (ak ≠ 4 ∧ ak ≠ 5) := by omega
        have hkb : bk = 4 ∨ bk = 5 ∨ (bk ≠ 4 ∧ bk ≠ 5) := by omega
        rcases hka with ha | ha | ha
        · rcases hkb with hb' | hb' | hb'
          · skip
            have a4 : (ak == 4) = true := by simp [ha]
            have a5 : (ak == 5) = false := by simp [ha]
            have b4 : (bk == 4) = true := by simp [hb']
            have b5 : (bk == 5) = false := by simp [hb']
            have h1 : ak = bk := by omega
            have e1 : (ak == bk) = true := by simp [h1]
            by_cases h2 : at' = bt
            · have e2 : (at' == bt) = true := by simp [h2]
              rw [show nmEq an bn = false from nmEq_ne.2 (fun e => HE.out ⟨h1, h2, e⟩)] at e5
              have HV := hid (show mrgW L ⟨ak, at', an⟩ ⟨bk, bt, bn⟩ = ⟨0, 0, ⟨#[]⟩⟩ from by unfold mrgW; rw [if_neg HN.out, if_neg HE.out, if_neg (show ¬ (ak = 4 ∧ bk = 5) from by omega), if_neg (show ¬ (ak = 5 ∧ bk = 4) from by omega), if_neg (show ¬ (ak = 5 ∧ bk = 5) from by omega)])
              rw [HV.out]
              try clear ha
              try clear hb'
              try clear h2
              try clear h1
              try clear h3
              go_enter Tryd.func49, Tryd.ntmps49
              go_upto_region 1 with fail
              rw [show ((w.alloc (.cells #[.int .i64 ak, .int .i64 at', .string an] 35)).alloc (.cells #[.int .i64 bk, .int .i64 bt, .string bn] 35)).alloc (.cells #[.int .i64 0, .int .i64 0, .string ⟨#[]⟩] 35) = w3 from HW3.out]
              have hb := Below.refl w3.heap.size w3
              have c0 := blk_cell (blk_below K1.out hb) 0
              have c1 := blk_cell (blk_below K1.out hb) 1
              have c2 := blk_cell (blk_below K1.out hb) 2
              have d0 := blk_cell (blk_below K2.out hb) 0
              have d1 := blk_cell (blk_below K2.out hb) 1
              have d2 := blk_cell (blk_below K2.out hb) 2
              have r0 := blk_cell (blk_below K3.out hb) 0
              have r1 := blk_cell (blk_below K3.out hb) 1
              have r2 := blk_cell (blk_below K3.out hb) 2
              have f0 := blk_frozen (blk_below K3.out hb) 0
              have f1 := blk_frozen (blk_below K3.out hb) 1
              have f2 := blk_frozen (blk_below K3.out hb) 2
              have HBz := hid hb
              clear hb
              go_wp2_with (first
                | (go_at_call 18; refine HLE.out.mono ?_; rintro e w' ⟨rfl, hw⟩; obtain rfl := hw.symm)
                | (go_at_call 103; refine (HMY.out _ _ _ _ _ (by first | exact HBz.out | assumption) (by first | exact Q1.out | exact Q2.out)).mono ?_; rintro e w' ⟨rfl, hB⟩; have hb := bel_tr (a := w3) (by first | exact HBz.out | assumption) hB; clear hB; have c0 := blk_cell (blk_below K1.out hb) 0; have c1 := blk_cell (blk_below K1.out hb) 1; have c2 := blk_cell (blk_below K1.out hb) 2; have d0 := blk_cell (blk_below K2.out hb) 0; have d1 := blk_cell (blk_below K2.out hb) 1; have d2 := blk_cell (blk_below K2.out hb) 2; have r0 := blk_cell (blk_below K3.out hb) 0; have r1 := blk_cell (blk_below K3.out hb) 1; have r2 := blk_cell (blk_below K3.out hb) 2; have f0 := blk_frozen (blk_below K3.out hb) 0; have f1 := blk_frozen (blk_below K3.out hb) 1; have f2 := blk_frozen (blk_below K3.out hb) 2)
                | (go_at_call 104; refine (HTG.out _ (by assumption)).mono ?_; rintro e w' ⟨rfl, hB⟩; have hb := bel_tr (a := w3) (by assumption) hB; clear hB; have c0 := blk_cell (blk_below K1.out hb) 0; have c1 := blk_cell (blk_below K1.out hb) 1; have c2 := blk_cell (blk_below K1.out hb) 2; have d0 := blk_cell (blk_below K2.out hb) 0; have d1 := blk_cell (blk_below K2.out hb) 1; have d2 := blk_cell (blk_below K2.out hb) 2; have r0 := blk_cell (blk_below K3.out hb) 0; have r1 := blk_cell (blk_below K3.out hb) 1; have r2 := blk_cell (blk_below K3.out hb) 2; have f0 := blk_frozen (blk_below K3.out hb) 0; have f1 := blk_frozen (blk_below K3.out hb) 1; have f2 := blk_frozen (blk_below K3.out hb) 2))
              refine bodyPost_ret (results_single rfl (.cell (w.heap.size + 1 + 1) 35 #[.int .i64 (0), .int .i64 (0), .string (⟨#[]⟩)] (0, 0) _ rfl (blk_put (blk_put (blk_put (blk_below K3.out hb) 0 _ rfl) 1 _ rfl) 2 _ rfl) Tryd.underlying35 rfl (by kernel_rfl) .nil)) rfl ?_
              exact ⟨rfl, (((below_weaken HB2.out HB2.out.size hb).setCell (by show w.heap.size ≤ w.heap.size + 1 + 1; omega) _).setCell (by show w.heap.size ≤ w.heap.size + 1 + 1; omega) _).setCell (by show w.heap.size ≤ w.heap.size + 1 + 1; omega) _⟩
            · have e2 : (at' == bt) = false := by simp [h2]
              clear e5
              have HV := hid (show mrgW L ⟨ak, at', an⟩ ⟨bk, bt, bn⟩ = ⟨0, 0, ⟨#[]⟩⟩ from by unfold mrgW; rw [if_neg HN.out, if_neg HE.out, if_neg (show ¬ (ak = 4 ∧ bk = 5) from by omega), if_neg (show ¬ (ak = 5 ∧ bk = 4) from by omega), if_neg (show ¬ (ak = 5 ∧ bk = 5) from by omega)])
              rw [HV.out]
              try clear ha
              try clear hb'
              try clear h2
              try clear h1
              try clear h3
              go_enter Tryd.func49, Tryd.ntmps49
              go_upto_region 1 with fail
              rw [show ((w.alloc (.cells #[.int .i64 ak, .int .i64 at', .string an] 35)).alloc (.cells #[.int .i64 bk, .int .i64 bt, .string bn] 35)).alloc (.cells #[.int .i64 0, .int .i64 0, .string ⟨#[]⟩] 35) = w3 from HW3.out]
              have hb := Below.refl w3.heap.size w3
              have c0 := blk_cell (blk_below K1.out hb) 0
              have c1 := blk_cell (blk_below K1.out hb) 1
              have c2 := blk_cell (blk_below K1.out hb) 2
              have d0 := blk_cell (blk_below K2.out hb) 0
              have d1 := blk_cell (blk_below K2.out hb) 1
              have d2 := blk_cell (blk_below K2.out hb) 2
              have r0 := blk_cell (blk_below K3.out hb) 0
              have r1 := blk_cell (blk_below K3.out hb) 1
              have r2 := blk_cell (blk_below K3.out hb) 2
              have f0 := blk_frozen (blk_below K3.out hb) 0
              have f1 := blk_frozen (blk_below K3.out hb) 1
              have f2 := blk_frozen (blk_below K3.out hb) 2
              have HBz := hid hb
              clear hb
              go_wp2_with (first
                | (go_at_call 18; refine HLE.out.mono ?_; rintro e w' ⟨rfl, hw⟩; obtain rfl := hw.symm)
                | (go_at_call 103; refine (HMY.out _ _ _ _ _ (by first | exact HBz.out | assumption) (by first | exact Q1.out | exact Q2.out)).mono ?_; rintro e w' ⟨rfl, hB⟩; have hb := bel_tr (a := w3) (by first | exact HBz.out | assumption) hB; clear hB; have c0 := blk_cell (blk_below K1.out hb) 0; have c1 := blk_cell (blk_below K1.out hb) 1; have c2 := blk_cell (blk_below K1.out hb) 2; have d0 := blk_cell (blk_below K2.out hb) 0; have d1 := blk_cell (blk_below K2.out hb) 1; have d2 := blk_cell (blk_below K2.out hb) 2; have r0 := blk_cell (blk_below K3.out hb) 0; have r1 := blk_cell (blk_below K3.out hb) 1; have r2 := blk_cell (blk_below K3.out hb) 2; have f0 := blk_frozen (blk_below K3.out hb) 0; have f1 := blk_frozen (blk_below K3.out hb) 1; have f2 := blk_frozen (blk_below K3.out hb) 2)
                | (go_at_call 104; refine (HTG.out _ (by assumption)).mono ?_; rintro e w' ⟨rfl, hB⟩; have hb := bel_tr (a := w3) (by assumption) hB; clear hB; have c0 := blk_cell (blk_below K1.out hb) 0; have c1 := blk_cell (blk_below K1.out hb) 1; have c2 := blk_cell (blk_below K1.out hb) 2; have d0 := blk_cell (blk_below K2.out hb) 0; have d1 := blk_cell (blk_below K2.out hb) 1; have d2 := blk_cell (blk_below K2.out hb) 2; have r0 := blk_cell (blk_below K3.out hb) 0; have r1 := blk_cell (blk_below K3.out hb) 1; have r2 := blk_cell (blk_below K3.out hb) 2; have f0 := blk_frozen (blk_below K3.out hb) 0; have f1 := blk_frozen (blk_below K3.out hb) 1; have f2 := blk_frozen (blk_below K3.out hb) 2))
              refine bodyPost_ret (results_single rfl (.cell (w.heap.size + 1 + 1) 35 #[.int .i64 (0), .int .i64 (0), .string (⟨#[]⟩)] (0, 0) _ rfl (blk_put (blk_put (blk_put (blk_below K3.out hb) 0 _ rfl) 1 _ rfl) 2 _ rfl) Tryd.underlying35 rfl (by kernel_rfl) .nil)) rfl ?_
              exact ⟨rfl, (((below_weaken HB2.out HB2.out.size hb).setCell (by show w.heap.size ≤ w.heap.size + 1 + 1; omega) _).setCell (by show w.heap.size ≤ w.heap.size + 1 + 1; omega) _).setCell (by show w.heap.size ≤ w.heap.size + 1 + 1; omega) _⟩
          · skip
            have a4 : (ak == 4) = true := by simp [ha]
            have a5 : (ak == 5) = false := by simp [ha]
            have b4 : (bk == 4) = false := by simp [hb']
            have b5 : (bk == 5) = true := by simp [hb']
            have e1 : (ak == bk) = false := by simp; omega
            have HV := hid (show mrgW L ⟨ak, at', an⟩ ⟨bk, bt, bn⟩ = ⟨bk, bt, bn⟩ from by unfold mrgW; rw [if_neg HN.out, if_neg HE.out, if_pos ⟨ha, hb'⟩])
            rw [HV.out]
            try clear ha
            try clear hb'
            try clear h2
            try clear h1
            try clear h3
            go_enter Tryd.func49, Tryd.ntmps49
            go_upto_region 1 with fail
            rw [show ((w.alloc (.cells #[.int .i64 ak, .int .i64 at', .string an] 35)).alloc (.cells #[.int .i64 bk, .int .i64 bt, .string bn] 35)).alloc (.cells #[.int .i64 0, .int .i64 0, .string ⟨#[]⟩] 35) = w3 from HW3.out]
            have hb := Below.refl w3.heap.size w3
            have c0 := blk_cell (blk_below K1.out hb) 0
            have c1 := blk_cell (blk_below K1.out hb) 1
            have c2 := blk_cell (blk_below K1.out hb) 2
            have d0 := blk_cell (blk_below K2.out hb) 0
            have d1 := blk_cell (blk_below K2.out hb) 1
            have d2 := blk_cell (blk_below K2.out hb) 2
            have r0 := blk_cell (blk_below K3.out hb) 0
            have r1 := blk_cell (blk_below K3.out hb) 1
            have r2 := blk_cell (blk_below K3.out hb) 2
            have f0 := blk_frozen (blk_below K3.out hb) 0
            have f1 := blk_frozen (blk_below K3.out hb) 1
            have f2 := blk_frozen (blk_below K3.out hb) 2
            have HBz := hid hb
            clear hb
            go_wp2_with (first
              | (go_at_call 18; refine HLE.out.mono ?_; rintro e w' ⟨rfl, hw⟩; obtain rfl := hw.symm)
              | (go_at_call 103; refine (HMY.out _ _ _ _ _ (by first | exact HBz.out | assumption) (by first | exact Q1.out | exact Q2.out)).mono ?_; rintro e w' ⟨rfl, hB⟩; have hb := bel_tr (a := w3) (by first | exact HBz.out | assumption) hB; clear hB; have c0 := blk_cell (blk_below K1.out hb) 0; have c1 := blk_cell (blk_below K1.out hb) 1; have c2 := blk_cell (blk_below K1.out hb) 2; have d0 := blk_cell (blk_below K2.out hb) 0; have d1 := blk_cell (blk_below K2.out hb) 1; have d2 := blk_cell (blk_below K2.out hb) 2; have r0 := blk_cell (blk_below K3.out hb) 0; have r1 := blk_cell (blk_below K3.out hb) 1; have r2 := blk_cell (blk_below K3.out hb) 2; have f0 := blk_frozen (blk_below K3.out hb) 0; have f1 := blk_frozen (blk_below K3.out hb) 1; have f2 := blk_frozen (blk_below K3.out hb) 2)
              | (go_at_call 104; refine (HTG.out _ (by assumption)).mono ?_; rintro e w' ⟨rfl, hB⟩; have hb := bel_tr (a := w3) (by assumption) hB; clear hB; have c0 := blk_cell (blk_below K1.out hb) 0; have c1 := blk_cell (blk_below K1.out hb) 1; have c2 := blk_cell (blk_below K1.out hb) 2; have d0 := blk_cell (blk_below K2.out hb) 0; have d1 := blk_cell (blk_below K2.out hb) 1; have d2 := blk_cell (blk_below K2.out hb) 2; have r0 := blk_cell (blk_below K3.out hb) 0; have r1 := blk_cell (blk_below K3.out hb) 1; have r2 := blk_cell (blk_below K3.out hb) 2; have f0 := blk_frozen (blk_below K3.out hb) 0; have f1 := blk_frozen (blk_below K3.out hb) 1; have f2 := blk_frozen (blk_below K3.out hb) 2))
            refine bodyPost_ret (results_single rfl (.cell (w.heap.size + 1 + 1) 35 #[.int .i64 (bk), .int .i64 (bt), .string (bn)] (0, 0) _ rfl (blk_put (blk_put (blk_put (blk_below K3.out hb) 0 _ rfl) 1 _ rfl) 2 _ rfl) Tryd.underlying35 rfl (by kernel_rfl) .nil)) rfl ?_
            exact ⟨rfl, (((below_weaken HB2.out HB2.out.size hb).setCell (by show w.heap.size ≤ w.heap.size + 1 + 1; omega) _).setCell (by show w.heap.size ≤ w.heap.size + 1 + 1; omega) _).setCell (by show w.heap.size ≤ w.heap.size + 1 + 1; omega) _⟩
          · skip
            have a4 : (ak == 4) = true := by simp [ha]
            have a5 : (ak == 5) = false := by simp [ha]
            have b4 : (bk == 4) = false := by simp; omega
            have b5 : (bk == 5) = false := by simp; omega
            have e1 : (ak == bk) = false := by simp; omega
            have HV := hid (show mrgW L ⟨ak, at', an⟩ ⟨bk, bt, bn⟩ = ⟨0, 0, ⟨#[]⟩⟩ from by unfold mrgW; rw [if_neg HN.out, if_neg HE.out, if_neg (show ¬ (ak = 4 ∧ bk = 5) from by omega), if_neg (show ¬ (ak = 5 ∧ bk = 4) from by omega), if_neg (show ¬ (ak = 5 ∧ bk = 5) from by omega)])
            rw [HV.out]
            try clear ha
            try clear hb'
            try clear h2
            try clear h1
            try clear h3
            go_enter Tryd.func49, Tryd.ntmps49
            go_upto_region 1 with fail
            rw [show ((w.alloc (.cells #[.int .i64 ak, .int .i64 at', .string an] 35)).alloc (.cells #[.int .i64 bk, .int .i64 bt, .string bn] 35)).alloc (.cells #[.int .i64 0, .int .i64 0, .string ⟨#[]⟩] 35) = w3 from HW3.out]
            have hb := Below.refl w3.heap.size w3
            have c0 := blk_cell (blk_below K1.out hb) 0
            have c1 := blk_cell (blk_below K1.out hb) 1
            have c2 := blk_cell (blk_below K1.out hb) 2
            have d0 := blk_cell (blk_below K2.out hb) 0
            have d1 := blk_cell (blk_below K2.out hb) 1
            have d2 := blk_cell (blk_below K2.out hb) 2
            have r0 := blk_cell (blk_below K3.out hb) 0
            have r1 := blk_cell (blk_below K3.out hb) 1
            have r2 := blk_cell (blk_below K3.out hb) 2
            have f0 := blk_frozen (blk_below K3.out hb) 0
            have f1 := blk_frozen (blk_below K3.out hb) 1
            have f2 := blk_frozen (blk_below K3.out hb) 2
            have HBz := hid hb
            clear hb
            go_wp2_with (first
              | (go_at_call 18; refine HLE.out.mono ?_; rintro e w' ⟨rfl, hw⟩; obtain rfl := hw.symm)
              | (go_at_call 103; refine (HMY.out _ _ _ _ _ (by first | exact HBz.out | assumption) (by first | exact Q1.out | exact Q2.out)).mono ?_; rintro e w' ⟨rfl, hB⟩; have hb := bel_tr (a := w3) (by first | exact HBz.out | assumption) hB; clear hB; have c0 := blk_cell (blk_below K1.out hb) 0; have c1 := blk_cell (blk_below K1.out hb) 1; have c2 := blk_cell (blk_below K1.out hb) 2; have d0 := blk_cell (blk_below K2.out hb) 0; have d1 := blk_cell (blk_below K2.out hb) 1; have d2 := blk_cell (blk_below K2.out hb) 2; have r0 := blk_cell (blk_below K3.out hb) 0; have r1 := blk_cell (blk_below K3.out hb) 1; have r2 := blk_cell (blk_below K3.out hb) 2; have f0 := blk_frozen (blk_below K3.out hb) 0; have f1 := blk_frozen (blk_below K3.out hb) 1; have f2 := blk_frozen (blk_below K3.out hb) 2)
              | (go_at_call 104; refine (HTG.out _ (by assumption)).mono ?_; rintro e w' ⟨rfl, hB⟩; have hb := bel_tr (a := w3) (by assumption) hB; clear hB; have c0 := blk_cell (blk_below K1.out hb) 0; have c1 := blk_cell (blk_below K1.out hb) 1; have c2 := blk_cell (blk_below K1.out hb) 2; have d0 := blk_cell (blk_below K2.out hb) 0; have d1 := blk_cell (blk_below K2.out hb) 1; have d2 := blk_cell (blk_below K2.out hb) 2; have r0 := blk_cell (blk_below K3.out hb) 0; have r1 := blk_cell (blk_below K3.out hb) 1; have r2 := blk_cell (blk_below K3.out hb) 2; have f0 := blk_frozen (blk_below K3.out hb) 0; have f1 := blk_frozen (blk_below K3.out hb) 1; have f2 := blk_frozen (blk_below K3.out hb) 2))
            refine bodyPost_ret (results_single rfl (.cell (w.heap.size + 1 + 1) 35 #[.int .i64 (0), .int .i64 (0), .string (⟨#[]⟩)] (0, 0) _ rfl (blk_put (blk_put (blk_put (blk_below K3.out hb) 0 _ rfl) 1 _ rfl) 2 _ rfl) Tryd.underlying35 rfl (by kernel_rfl) .nil)) rfl ?_
            exact ⟨rfl, (((below_weaken HB2.out HB2.out.size hb).setCell (by show w.heap.size ≤ w.heap.size + 1 + 1; omega) _).setCell (by show w.heap.size ≤ w.heap.size + 1 + 1; omega) _).setCell (by show w.heap.size ≤ w.heap.size + 1 + 1; omega) _⟩
        · rcases hkb with hb' | hb' | hb'
          · skip
            have a4 : (ak == 4) = false := by simp [ha]
            have a5 : (ak == 5) = true := by simp [ha]
            have b4 : (bk == 4) = true := by simp [hb']
            have b5 : (bk == 5) = false := by simp [hb']
            have e1 : (ak == bk) = false := by simp; omega
            have HV := hid (show mrgW L ⟨ak, at', an⟩ ⟨bk, bt, bn⟩ = ⟨ak, at', an⟩ from by unfold mrgW; rw [if_neg HN.out, if_neg HE.out, if_neg (show ¬ (ak = 4 ∧ bk = 5) from by omega), if_pos ⟨ha, hb'⟩])
            rw [HV.out]
            try clear ha
            try clear hb'
            try clear h2
            try clear h1
            try clear h3
            go_enter Tryd.func49, Tryd.ntmps49
            go_upto_region 1 with fail
            rw [show ((w.alloc (.cells #[.int .i64 ak, .int .i64 at', .string an] 35)).alloc (.cells #[.int .i64 bk, .int .i64 bt, .string bn] 35)).alloc (.cells #[.int .i64 0, .int .i64 0, .string ⟨#[]⟩] 35) = w3 from HW3.out]
            have hb := Below.refl w3.heap.size w3
            have c0 := blk_cell (blk_below K1.out hb) 0
            have c1 := blk_cell (blk_below K1.out hb) 1
            have c2 := blk_cell (blk_below K1.out hb) 2
            have d0 := blk_cell (blk_below K2.out hb) 0
            have d1 := blk_cell (blk_below K2.out hb) 1
            have d2 := blk_cell (blk_below K2.out hb) 2
            have r0 := blk_cell (blk_below K3.out hb) 0
            have r1 := blk_cell (blk_below K3.out hb) 1
            have r2 := blk_cell (blk_below K3.out hb) 2
            have f0 := blk_frozen (blk_below K3.out hb) 0
            have f1 := blk_frozen (blk_below K3.out hb) 1
            have f2 := blk_frozen (blk_below K3.out hb) 2
            have HBz := hid hb
            clear hb
            go_wp2_with (first
              | (go_at_call 18; refine HLE.out.mono ?_; rintro e w' ⟨rfl, hw⟩; obtain rfl := hw.symm)
              | (go_at_call 103; refine (HMY.out _ _ _ _ _ (by first | exact HBz.out | assumption) (by first | exact Q1.out | exact Q2.out)).mono ?_; rintro e w' ⟨rfl, hB⟩; have hb := bel_tr (a := w3) (by first | exact HBz.out | assumption) hB; clear hB; have c0 := blk_cell (blk_below K1.out hb) 0; have c1 := blk_cell (blk_below K1.out hb) 1; have c2 := blk_cell (blk_below K1.out hb) 2; have d0 := blk_cell (blk_below K2.out hb) 0; have d1 := blk_cell (blk_below K2.out hb) 1; have d2 := blk_cell (blk_below K2.out hb) 2; have r0 := blk_cell (blk_below K3.out hb) 0; have r1 := blk_cell (blk_below K3.out hb) 1; have r2 := blk_cell (blk_below K3.out hb) 2; have f0 := blk_frozen (blk_below K3.out hb) 0; have f1 := blk_frozen (blk_below K3.out hb) 1; have f2 := blk_frozen (blk_below K3.out hb) 2)
              | (go_at_call 104; refine (HTG.out _ (by assumption)).mono ?_; rintro e w' ⟨rfl, hB⟩; have hb := bel_tr (a := w3) (by assumption) hB; clear hB; have c0 := blk_cell (blk_below K1.out hb) 0; have c1 := blk_cell (blk_below K1.out hb) 1; have c2 := blk_cell (blk_below K1.out hb) 2; have d0 := blk_cell (blk_below K2.out hb) 0; have d1 := blk_cell (blk_below K2.out hb) 1; have d2 := blk_cell (blk_below K2.out hb) 2; have r0 := blk_cell (blk_below K3.out hb) 0; have r1 := blk_cell (blk_below K3.out hb) 1; have r2 := blk_cell (blk_below K3.out hb) 2; have f0 := blk_frozen (blk_below K3.out hb) 0; have f1 := blk_frozen (blk_below K3.out hb) 1; have f2 := blk_frozen (blk_below K3.out hb) 2))
            refine bodyPost_ret (results_single rfl (.cell (w.heap.size + 1 + 1) 35 #[.int .i64 (ak), .int .i64 (at'), .string (an)] (0, 0) _ rfl (blk_put (blk_put (blk_put (blk_below K3.out hb) 0 _ rfl) 1 _ rfl) 2 _ rfl) Tryd.underlying35 rfl (by kernel_rfl) .nil)) rfl ?_
            exact ⟨rfl, (((below_weaken HB2.out HB2.out.size hb).setCell (by show w.heap.size ≤ w.heap.size + 1 + 1; omega) _).setCell (by show w.heap.size ≤ w.heap.size + 1 + 1; omega) _).setCell (by show w.heap.size ≤ w.heap.size + 1 + 1; omega) _⟩
          · skip
            have a4 : (ak == 4) = false := by simp [ha]
            have a5 : (ak == 5) = true := by simp [ha]
            have b4 : (bk == 4) = false := by simp [hb']
            have b5 : (bk == 5) = true := by simp [hb']
            have h1 : ak = bk := by omega
            have e1 : (ak == bk) = true := by simp [h1]
            by_cases h2 : at' = bt
            · have e2 : (at' == bt) = true := by simp [h2]
              rw [show nmEq an bn = false from nmEq_ne.2 (fun e => HE.out ⟨h1, h2, e⟩)] at e5
              have HV := hid (show mrgW L ⟨ak, at', an⟩ ⟨bk, bt, bn⟩ = ⟨5, togK at' bt an bn, togN L at' bt an bn⟩ from by unfold mrgW; rw [if_neg HN.out, if_neg HE.out, if_neg (show ¬ (ak = 4 ∧ bk = 5) from by omega), if_neg (show ¬ (ak = 5 ∧ bk = 4) from by omega), if_pos ⟨ha, hb'⟩])
              rw [HV.out]
              try clear ha
              try clear hb'
              try clear h2
              try clear h1
              try clear h3
              go_enter Tryd.func49, Tryd.ntmps49
              go_upto_region 1 with fail
              rw [show ((w.alloc (.cells #[.int .i64 ak, .int .i64 at', .string an] 35)).alloc (.cells #[.int .i64 bk, .int .i64 bt, .string bn] 35)).alloc (.cells #[.int .i64 0, .int .i64 0, .string ⟨#[]⟩] 35) = w3 from HW3.out]
              have hb := Below.refl w3.heap.size w3
              have c0 := blk_cell (blk_below K1.out hb) 0
              have c1 := blk_cell (blk_below K1.out hb) 1
              have c2 := blk_cell (blk_below K1.out hb) 2
              have d0 := blk_cell (blk_below K2.out hb) 0
              have d1 := blk_cell (blk_below K2.out hb) 1
              have d2 := blk_cell (blk_below K2.out hb) 2
              have r0 := blk_cell (blk_below K3.out hb) 0
              have r1 := blk_cell (blk_below K3.out hb) 1
              have r2 := blk_cell (blk_below K3.out hb) 2
              have f0 := blk_frozen (blk_below K3.out hb) 0
              have f1 := blk_frozen (blk_below K3.out hb) 1
              have f2 := blk_frozen (blk_below K3.out hb) 2
              have HBz := hid hb
              clear hb
              go_wp2_with (first
                | (go_at_call 18; refine HLE.out.mono ?_; rintro e w' ⟨rfl, hw⟩; obtain rfl := hw.symm)
                | (go_at_call 103; refine (HMY.out _ _ _ _ _ (by first | exact HBz.out | assumption) (by first | exact Q1.out | exact Q2.out)).mono ?_; rintro e w' ⟨rfl, hB⟩; have hb := bel_tr (a := w3) (by first | exact HBz.out | assumption) hB; clear hB; have c0 := blk_cell (blk_below K1.out hb) 0; have c1 := blk_cell (blk_below K1.out hb) 1; have c2 := blk_cell (blk_below K1.out hb) 2; have d0 := blk_cell (blk_below K2.out hb) 0; have d1 := blk_cell (blk_below K2.out hb) 1; have d2 := blk_cell (blk_below K2.out hb) 2; have r0 := blk_cell (blk_below K3.out hb) 0; have r1 := blk_cell (blk_below K3.out hb) 1; have r2 := blk_cell (blk_below K3.out hb) 2; have f0 := blk_frozen (blk_below K3.out hb) 0; have f1 := blk_frozen (blk_below K3.out hb) 1; have f2 := blk_frozen (blk_below K3.out hb) 2)
                | (go_at_call 104; refine (HTG.out _ (by assumption)).mono ?_; rintro e w' ⟨rfl, hB⟩; have hb := bel_tr (a := w3) (by assumption) hB; clear hB; have c0 := blk_cell (blk_below K1.out hb) 0; have c1 := blk_cell (blk_below K1.out hb) 1; have c2 := blk_cell (blk_below K1.out hb) 2; have d0 := blk_cell (blk_below K2.out hb) 0; have d1 := blk_cell (blk_below K2.out hb) 1; have d2 := blk_cell (blk_below K2.out hb) 2; have r0 := blk_cell (blk_below K3.out hb) 0; have r1 := blk_cell (blk_below K3.out hb) 1; have r2 := blk_cell (blk_below K3.out hb) 2; have f0 := blk_frozen (blk_below K3.out hb) 0; have f1 := blk_frozen (blk_below K3.out hb) 1; have f2 := blk_frozen (blk_below K3.out hb) 2))
              refine bodyPost_ret (results_single rfl (.cell (w.heap.size + 1 + 1) 35 #[.int .i64 (5), .int .i64 (togK at' bt an bn), .string (togN L at' bt an bn)] (0, 0) _ rfl (blk_put (blk_put (blk_put (blk_below K3.out hb) 0 _ rfl) 1 _ rfl) 2 _ rfl) Tryd.underlying35 rfl (by kernel_rfl) .nil)) rfl ?_
              exact ⟨rfl, (((below_weaken HB2.out HB2.out.size hb).setCell (by show w.heap.size ≤ w.heap.size + 1 + 1; omega) _).setCell (by show w.heap.size ≤ w.heap.size + 1 + 1; omega) _).setCell (by show w.heap.size ≤ w.heap.size + 1 + 1; omega) _⟩
            · have e2 : (at' == bt) = false := by simp [h2]
              clear e5
              have HV := hid (show mrgW L ⟨ak, at', an⟩ ⟨bk, bt, bn⟩ = ⟨5, togK at' bt an bn, togN L at' bt an bn⟩ from by unfold mrgW; rw [if_neg HN.out, if_neg HE.out, if_neg (show ¬ (ak = 4 ∧ bk = 5) from by omega), if_neg (show ¬ (ak = 5 ∧ bk = 4) from by omega), if_pos ⟨ha, hb'⟩])
              rw [HV.out]
              try clear ha
              try clear hb'
              try clear h2
              try clear h1
              try clear h3
              go_enter Tryd.func49, Tryd.ntmps49
              go_upto_region 1 with fail
              rw [show ((w.alloc (.cells #[.int .i64 ak, .int .i64 at', .string an] 35)).alloc (.cells #[.int .i64 bk, .int .i64 bt, .string bn] 35)).alloc (.cells #[.int .i64 0, .int .i64 0, .string ⟨#[]⟩] 35) = w3 from HW3.out]
              have hb := Below.refl w3.heap.size w3
              have c0 := blk_cell (blk_below K1.out hb) 0
              have c1 := blk_cell (blk_below K1.out hb) 1
              have c2 := blk_cell (blk_below K1.out hb) 2
              have d0 := blk_cell (blk_below K2.out hb) 0
              have d1 := blk_cell (blk_below K2.out hb) 1
              have d2 := blk_cell (blk_below K2.out hb) 2
              have r0 := blk_cell (blk_below K3.out hb) 0
              have r1 := blk_cell (blk_below K3.out hb) 1
              have r2 := blk_cell (blk_below K3.out hb) 2
              have f0 := blk_frozen (blk_below K3.out hb) 0
              have f1 := blk_frozen (blk_below K3.out hb) 1
              have f2 := blk_frozen (blk_below K3.out hb) 2
              have HBz := hid hb
              clear hb
              go_wp2_with (first
                | (go_at_call 18; refine HLE.out.mono ?_; rintro e w' ⟨rfl, hw⟩; obtain rfl := hw.symm)
                | (go_at_call 103; refine (HMY.out _ _ _ _ _ (by first | exact HBz.out | assumption) (by first | exact Q1.out | exact Q2.out)).mono ?_; rintro e w' ⟨rfl, hB⟩; have hb := bel_tr (a := w3) (by first | exact HBz.out | assumption) hB; clear hB; have c0 := blk_cell (blk_below K1.out hb) 0; have c1 := blk_cell (blk_below K1.out hb) 1; have c2 := blk_cell (blk_below K1.out hb) 2; have d0 := blk_cell (blk_below K2.out hb) 0; have d1 := blk_cell (blk_below K2.out hb) 1; have d2 := blk_cell (blk_below K2.out hb) 2; have r0 := blk_cell (blk_below K3.out hb) 0; have r1 := blk_cell (blk_below K3.out hb) 1; have r2 := blk_cell (blk_below K3.out hb) 2; have f0 := blk_frozen (blk_below K3.out hb) 0; have f1 := blk_frozen (blk_below K3.out hb) 1; have f2 := blk_frozen (blk_below K3.out hb) 2)
                | (go_at_call 104; refine (HTG.out _ (by assumption)).mono ?_; rintro e w' ⟨rfl, hB⟩; have hb := bel_tr (a := w3) (by assumption) hB; clear hB; have c0 := blk_cell (blk_below K1.out hb) 0; have c1 := blk_cell (blk_below K1.out hb) 1; have c2 := blk_cell (blk_below K1.out hb) 2; have d0 := blk_cell (blk_below K2.out hb) 0; have d1 := blk_cell (blk_below K2.out hb) 1; have d2 := blk_cell (blk_below K2.out hb) 2; have r0 := blk_cell (blk_below K3.out hb) 0; have r1 := blk_cell (blk_below K3.out hb) 1; have r2 := blk_cell (blk_below K3.out hb) 2; have f0 := blk_frozen (blk_below K3.out hb) 0; have f1 := blk_frozen (blk_below K3.out hb) 1; have f2 := blk_frozen (blk_below K3.out hb) 2))
              refine bodyPost_ret (results_single rfl (.cell (w.heap.size + 1 + 1) 35 #[.int .i64 (5), .int .i64 (togK at' bt an bn), .string (togN L at' bt an bn)] (0, 0) _ rfl (blk_put (blk_put (blk_put (blk_below K3.out hb) 0 _ rfl) 1 _ rfl) 2 _ rfl) Tryd.underlying35 rfl (by kernel_rfl) .nil)) rfl ?_
              exact ⟨rfl, (((below_weaken HB2.out HB2.out.size hb).setCell (by show w.heap.size ≤ w.heap.size + 1 + 1; omega) _).setCell (by show w.heap.size ≤ w.heap.size + 1 + 1; omega) _).setCell (by show w.heap.size ≤ w.heap.size + 1 + 1; omega) _⟩
          · skip
            have a4 : (ak == 4) = false := by simp [ha]
            have a5 : (ak == 5) = true := by simp [ha]
            have b4 : (bk == 4) = false := by simp; omega
            have b5 : (bk == 5) = false := by simp; omega
            have e1 : (ak == bk) = false := by simp; omega
            have HV := hid (show mrgW L ⟨ak, at', an⟩ ⟨bk, bt, bn⟩ = ⟨0, 0, ⟨#[]⟩⟩ from by unfold mrgW; rw [if_neg HN.out, if_neg HE.out, if_neg (show ¬ (ak = 4 ∧ bk = 5) from by omega), if_neg (show ¬ (ak = 5 ∧ bk = 4) from by omega), if_neg (show ¬ (ak = 5 ∧ bk = 5) from by omega)])
            rw [HV.out]
            try clear ha
            try clear hb'
            try clear h2
            try clear h1
            try clear h3
            go_enter Tryd.func49, Tryd.ntmps49
            go_upto_region 1 with fail
            rw [show ((w.alloc (.cells #[.int .i64 ak, .int .i64 at', .string an] 35)).alloc (.cells #[.int .i64 bk, .int .i64 bt, .string bn] 35)).alloc (.cells #[.int .i64 0, .int .i64 0, .string ⟨#[]⟩] 35) = w3 from HW3.out]
            have hb := Below.refl w3.heap.size w3
            have c0 := blk_cell (blk_below K1.out hb) 0
            have c1 := blk_cell (blk_below K1.out hb) 1
            have c2 := blk_cell (blk_below K1.out hb) 2
            have d0 := blk_cell (blk_below K2.out hb) 0
            have d1 := blk_cell (blk_below K2.out hb) 1
            have d2 := blk_cell (blk_below K2.out hb) 2
            have r0 := blk_cell (blk_below K3.out hb) 0
            have r1 := blk_cell (blk_below K3.out hb) 1
            have r2 := blk_cell (blk_below K3.out hb) 2
            have f0 := blk_frozen (blk_below K3.out hb) 0
            have f1 := blk_frozen (blk_below K3.out hb) 1
            have f2 := blk_frozen (blk_below K3.out hb) 2
            have HBz := hid hb
            clear hb
            go_wp2_with (first
              | (go_at_call 18; refine HLE.out.mono ?_; rintro e w' ⟨rfl, hw⟩; obtain rfl := hw.symm)
              | (go_at_call 103; refine (HMY.out _ _ _ _ _ (by first | exact HBz.out | assumption) (by first | exact Q1.out | exact Q2.out)).mono ?_; rintro e w' ⟨rfl, hB⟩; have hb := bel_tr (a := w3) (by first | exact HBz.out | assumption) hB; clear hB; have c0 := blk_cell (blk_below K1.out hb) 0; have c1 := blk_cell (blk_below K1.out hb) 1; have c2 := blk_cell (blk_below K1.out hb) 2; have d0 := blk_cell (blk_below K2.out hb) 0; have d1 := blk_cell (blk_below K2.out hb) 1; have d2 := blk_cell (blk_below K2.out hb) 2; have r0 := blk_cell (blk_below K3.out hb) 0; have r1 := blk_cell (blk_below K3.out hb) 1; have r2 := blk_cell (blk_below K3.out hb) 2; have f0 := blk_frozen (blk_below K3.out hb) 0; have f1 := blk_frozen (blk_below K3.out hb) 1; have f2 := blk_frozen (blk_below K3.out hb) 2)
              | (go_at_call 104; refine (HTG.out _ (by assumption)).mono ?_; rintro e w' ⟨rfl, hB⟩; have hb := bel_tr (a := w3) (by assumption) hB; clear hB; have c0 := blk_cell (blk_below K1.out hb) 0; have c1 := blk_cell (blk_below K1.out hb) 1; have c2 := blk_cell (blk_below K1.out hb) 2; have d0 := blk_cell (blk_below K2.out hb) 0; have d1 := blk_cell (blk_below K2.out hb) 1; have d2 := blk_cell (blk_below K2.out hb) 2; have r0 := blk_cell (blk_below K3.out hb) 0; have r1 := blk_cell (blk_below K3.out hb) 1; have r2 := blk_cell (blk_below K3.out hb) 2; have f0 := blk_frozen (blk_below K3.out hb) 0; have f1 := blk_frozen (blk_below K3.out hb) 1; have f2 := blk_frozen (blk_below K3.out hb) 2))
            refine bodyPost_ret (results_single rfl (.cell (w.heap.size + 1 + 1) 35 #[.int .i64 (0), .int .i64 (0), .string (⟨#[]⟩)] (0, 0) _ rfl (blk_put (blk_put (blk_put (blk_below K3.out hb) 0 _ rfl) 1 _ rfl) 2 _ rfl) Tryd.underlying35 rfl (by kernel_rfl) .nil)) rfl ?_
            exact ⟨rfl, (((below_weaken HB2.out HB2.out.size hb).setCell (by show w.heap.size ≤ w.heap.size + 1 + 1; omega) _).setCell (by show w.heap.size ≤ w.heap.size + 1 + 1; omega) _).setCell (by show w.heap.size ≤ w.heap.size + 1 + 1; omega) _⟩
        · rcases hkb with hb' | hb' | hb'
          · skip
            have a4 : (ak == 4) = false := by simp; omega
            have a5 : (ak == 5) = false := by simp; omega
            have b4 : (bk == 4) = true := by simp [hb']
            have b5 : (bk == 5) = false := by simp [hb']
            have e1 : (ak == bk) = false := by simp; omega
            have HV := hid (show mrgW L ⟨ak, at', an⟩ ⟨bk, bt, bn⟩ = ⟨0, 0, ⟨#[]⟩⟩ from by unfold mrgW; rw [if_neg HN.out, if_neg HE.out, if_neg (show ¬ (ak = 4 ∧ bk = 5) from by omega), if_neg (show ¬ (ak = 5 ∧ bk = 4) from by omega), if_neg (show ¬ (ak = 5 ∧ bk = 5) from by omega)])
            rw [HV.out]
            try clear ha
            try clear hb'
            try clear h2
            try clear h1
            try clear h3
            go_enter Tryd.func49, Tryd.ntmps49
            go_upto_region 1 with fail
            rw [show ((w.alloc (.cells #[.int .i64 ak, .int .i64 at', .string an] 35)).alloc (.cells #[.int .i64 bk, .int .i64 bt, .string bn] 35)).alloc (.cells #[.int .i64 0, .int .i64 0, .string ⟨#[]⟩] 35) = w3 from HW3.out]
            have hb := Below.refl w3.heap.size w3
            have c0 := blk_cell (blk_below K1.out hb) 0
            have c1 := blk_cell (blk_below K1.out hb) 1
            have c2 := blk_cell (blk_below K1.out hb) 2
            have d0 := blk_cell (blk_below K2.out hb) 0
            have d1 := blk_cell (blk_below K2.out hb) 1
            have d2 := blk_cell (blk_below K2.out hb) 2
            have r0 := blk_cell (blk_below K3.out hb) 0
            have r1 := blk_cell (blk_below K3.out hb) 1
            have r2 := blk_cell (blk_below K3.out hb) 2
            have f0 := blk_frozen (blk_below K3.out hb) 0
            have f1 := blk_frozen (blk_below K3.out hb) 1
            have f2 := blk_frozen (blk_below K3.out hb) 2
            have HBz := hid hb
            clear hb
            go_wp2_with (first
              | (go_at_call 18; refine HLE.out.mono ?_; rintro e w' ⟨rfl, hw⟩; obtain rfl := hw.symm)
              | (go_at_call 103; refine (HMY.out _ _ _ _ _ (by first | exact HBz.out | assumption) (by first | exact Q1.out | exact Q2.out)).mono ?_; rintro e w' ⟨rfl, hB⟩; have hb := bel_tr (a := w3) (by first | exact HBz.out | assumption) hB; clear hB; have c0 := blk_cell (blk_below K1.out hb) 0; have c1 := blk_cell (blk_below K1.out hb) 1; have c2 := blk_cell (blk_below K1.out hb) 2; have d0 := blk_cell (blk_below K2.out hb) 0; have d1 := blk_cell (blk_below K2.out hb) 1; have d2 := blk_cell (blk_below K2.out hb) 2; have r0 := blk_cell (blk_below K3.out hb) 0; have r1 := blk_cell (blk_below K3.out hb) 1; have r2 := blk_cell (blk_below K3.out hb) 2; have f0 := blk_frozen (blk_below K3.out hb) 0; have f1 := blk_frozen (blk_below K3.out hb) 1; have f2 := blk_frozen (blk_below K3.out hb) 2)
              | (go_at_call 104; refine (HTG.out _ (by assumption)).mono ?_; rintro e w' ⟨rfl, hB⟩; have hb := bel_tr (a := w3) (by assumption) hB; clear hB; have c0 := blk_cell (blk_below K1.out hb) 0; have c1 := blk_cell (blk_below K1.out hb) 1; have c2 := blk_cell (blk_below K1.out hb) 2; have d0 := blk_cell (blk_below K2.out hb) 0; have d1 := blk_cell (blk_below K2.out hb) 1; have d2 := blk_cell (blk_below K2.out hb) 2; have r0 := blk_cell (blk_below K3.out hb) 0; have r1 := blk_cell (blk_below K3.out hb) 1; have r2 := blk_cell (blk_below K3.out hb) 2; have f0 := blk_frozen (blk_below K3.out hb) 0; have f1 := blk_frozen (blk_below K3.out hb) 1; have f2 := blk_frozen (blk_below K3.out hb) 2))
            refine bodyPost_ret (results_single rfl (.cell (w.heap.size + 1 + 1) 35 #[.int .i64 (0), .int .i64 (0), .string (⟨#[]⟩)] (0, 0) _ rfl (blk_put (blk_put (blk_put (blk_below K3.out hb) 0 _ rfl) 1 _ rfl) 2 _ rfl) Tryd.underlying35 rfl (by kernel_rfl) .nil)) rfl ?_
            exact ⟨rfl, (((below_weaken HB2.out HB2.out.size hb).setCell (by show w.heap.size ≤ w.heap.size + 1 + 1; omega) _).setCell (by show w.heap.size ≤ w.heap.size + 1 + 1; omega) _).setCell (by show w.heap.size ≤ w.heap.size + 1 + 1; omega) _⟩
          · skip
            have a4 : (ak == 4) = false := by simp; omega
            have a5 : (ak == 5) = false := by simp; omega
            have b4 : (bk == 4) = false := by simp [hb']
            have b5 : (bk == 5) = true := by simp [hb']
            have e1 : (ak == bk) = false := by simp; omega
            have HV := hid (show mrgW L ⟨ak, at', an⟩ ⟨bk, bt, bn⟩ = ⟨0, 0, ⟨#[]⟩⟩ from by unfold mrgW; rw [if_neg HN.out, if_neg HE.out, if_neg (show ¬ (ak = 4 ∧ bk = 5) from by omega), if_neg (show ¬ (ak = 5 ∧ bk = 4) from by omega), if_neg (show ¬ (ak = 5 ∧ bk = 5) from by omega)])
            rw [HV.out]
            try clear ha
            try clear hb'
            try clear h2
            try clear h1
            try clear h3
            go_enter Tryd.func49, Tryd.ntmps49
            go_upto_region 1 with fail
            rw [show ((w.alloc (.cells #[.int .i64 ak, .int .i64 at', .string an] 35)).alloc (.cells #[.int .i64 bk, .int .i64 bt, .string bn] 35)).alloc (.cells #[.int .i64 0, .int .i64 0, .string ⟨#[]⟩] 35) = w3 from HW3.out]
            have hb := Below.refl w3.heap.size w3
            have c0 := blk_cell (blk_below K1.out hb) 0
            have c1 := blk_cell (blk_below K1.out hb) 1
            have c2 := blk_cell (blk_below K1.out hb) 2
            have d0 := blk_cell (blk_below K2.out hb) 0
            have d1 := blk_cell (blk_below K2.out hb) 1
            have d2 := blk_cell (blk_below K2.out hb) 2
            have r0 := blk_cell (blk_below K3.out hb) 0
            have r1 := blk_cell (blk_below K3.out hb) 1
            have r2 := blk_cell (blk_below K3.out hb) 2
            have f0 := blk_frozen (blk_below K3.out hb) 0
            have f1 := blk_frozen (blk_below K3.out hb) 1
            have f2 := blk_frozen (blk_below K3.out hb) 2
            have HBz := hid hb
            clear hb
            go_wp2_with (first
              | (go_at_call 18; refine HLE.out.mono ?_; rintro e w' ⟨rfl, hw⟩; obtain rfl := hw.symm)
              | (go_at_call 103; refine (HMY.out _ _ _ _ _ (by first | exact HBz.out | assumption) (by first | exact Q1.out | exact Q2.out)).mono ?_; rintro e w' ⟨rfl, hB⟩; have hb := bel_tr (a := w3) (by first | exact HBz.out | assumption) hB; clear hB; have c0 := blk_cell (blk_below K1.out hb) 0; have c1 := blk_cell (blk_below K1.out hb) 1; have c2 := blk_cell (blk_below K1.out hb) 2; have d0 := blk_cell (blk_below K2.out hb) 0; have d1 := blk_cell (blk_below K2.out hb) 1; have d2 := blk_cell (blk_below K2.out hb) 2; have r0 := blk_cell (blk_below K3.out hb) 0; have r1 := blk_cell (blk_below K3.out hb) 1; have r2 := blk_cell (blk_below K3.out hb) 2; have f0 := blk_frozen (blk_below K3.out hb) 0; have f1 := blk_frozen (blk_below K3.out hb) 1; have f2 := blk_frozen (blk_below K3.out hb) 2)
              | (go_at_call 104; refine (HTG.out _ (by assumption)).mono ?_; rintro e w' ⟨rfl, hB⟩; have hb := bel_tr (a := w3) (by assumption) hB; clear hB; have c0 := blk_cell (blk_below K1.out hb) 0; have c1 := blk_cell (blk_below K1.out hb) 1; have c2 := blk_cell (blk_below K1.out hb) 2; have d0 := blk_cell (blk_below K2.out hb) 0; have d1 := blk_cell (blk_below K2.out hb) 1; have d2 := blk_cell (blk_below K2.out hb) 2; have r0 := blk_cell (blk_below K3.out hb) 0; have r1 := blk_cell (blk_below K3.out hb) 1; have r2 := blk_cell (blk_below K3.out hb) 2; have f0 := blk_frozen (blk_below K3.out hb) 0; have f1 := blk_frozen (blk_below K3.out hb) 1; have f2 := blk_frozen (blk_below K3.out hb) 2))
            refine bodyPost_ret (results_single rfl (.cell (w.heap.size + 1 + 1) 35 #[.int .i64 (0), .int .i64 (0), .string (⟨#[]⟩)] (0, 0) _ rfl (blk_put (blk_put (blk_put (blk_below K3.out hb) 0 _ rfl) 1 _ rfl) 2 _ rfl) Tryd.underlying35 rfl (by kernel_rfl) .nil)) rfl ?_
            exact ⟨rfl, (((below_weaken HB2.out HB2.out.size hb).setCell (by show w.heap.size ≤ w.heap.size + 1 + 1; omega) _).setCell (by show w.heap.size ≤ w.heap.size + 1 + 1; omega) _).setCell (by show w.heap.size ≤ w.heap.size + 1 + 1; omega) _⟩
          · skip
            have a4 : (ak == 4) = false := by simp; omega
            have a5 : (ak == 5) = false := by simp; omega
            have b4 : (bk == 4) = false := by simp; omega
            have b5 : (bk == 5) = false := by simp; omega
            by_cases h1 : ak = bk
            · have e1 : (ak == bk) = true := by simp [h1]
              by_cases h2 : at' = bt
              · have e2 : (at' == bt) = true := by simp [h2]
                rw [show nmEq an bn = false from nmEq_ne.2 (fun e => HE.out ⟨h1, h2, e⟩)] at e5
                have HV := hid (show mrgW L ⟨ak, at', an⟩ ⟨bk, bt, bn⟩ = ⟨0, 0, ⟨#[]⟩⟩ from by unfold mrgW; rw [if_neg HN.out, if_neg HE.out, if_neg (show ¬ (ak = 4 ∧ bk = 5) from by omega), if_neg (show ¬ (ak = 5 ∧ bk = 4) from by omega), if_neg (show ¬ (ak = 5 ∧ bk = 5) from by omega)])
                rw [HV.out]
                try clear ha
                try clear hb'
                try clear h2
                try clear h1
                try clear h3
                go_enter Tryd.func49, Tryd.ntmps49
                go_upto_region 1 with fail
                rw [show ((w.alloc (.cells #[.int .i64 ak, .int .i64 at', .string an] 35)).alloc (.cells #[.int .i64 bk, .int .i64 bt, .string bn] 35)).alloc (.cells #[.int .i64 0, .int .i64 0, .string ⟨#[]⟩] 35) = w3 from HW3.out]
                have hb := Below.refl w3.heap.size w3
                have c0 := blk_cell (blk_below K1.out hb) 0
                have c1 := blk_cell (blk_below K1.out hb) 1
                have c2 := blk_cell (blk_below K1.out hb) 2
                have d0 := blk_cell (blk_below K2.out hb) 0
                have d1 := blk_cell (blk_below K2.out hb) 1
                have d2 := blk_cell (blk_below K2.out hb) 2
                have r0 := blk_cell (blk_below K3.out hb) 0
                have r1 := blk_cell (blk_below K3.out hb) 1
                have r2 := blk_cell (blk_below K3.out hb) 2
                have f0 := blk_frozen (blk_below K3.out hb) 0
                have f1 := blk_frozen (blk_below K3.out hb) 1
                have f2 := blk_frozen (blk_below K3.out hb) 2
                have HBz := hid hb
                clear hb
                go_wp2_with (first
                  | (go_at_call 18; refine HLE.out.mono ?_; rintro e w' ⟨rfl, hw⟩; obtain rfl := hw.symm)
                  | (go_at_call 103; refine (HMY.out _ _ _ _ _ (by first | exact HBz.out | assumption) (by first | exact Q1.out | exact Q2.out)).mono ?_; rintro e w' ⟨rfl, hB⟩; have hb := bel_tr (a := w3) (by first | exact HBz.out | assumption) hB; clear hB; have c0 := blk_cell (blk_below K1.out hb) 0; have c1 := blk_cell (blk_below K1.out hb) 1; have c2 := blk_cell (blk_below K1.out hb) 2; have d0 := blk_cell (blk_below K2.out hb) 0; have d1 := blk_cell (blk_below K2.out hb) 1; have d2 := blk_cell (blk_below K2.out hb) 2; have r0 := blk_cell (blk_below K3.out hb) 0; have r1 := blk_cell (blk_below K3.out hb) 1; have r2 := blk_cell (blk_below K3.out hb) 2; have f0 := blk_frozen (blk_below K3.out hb) 0; have f1 := blk_frozen (blk_below K3.out hb) 1; have f2 := blk_frozen (blk_below K3.out hb) 2)
                  | (go_at_call 104; refine (HTG.out _ (by assumption)).mono ?_; rintro e w' ⟨rfl, hB⟩; have hb := bel_tr (a := w3) (by assumption) hB; clear hB; have c0 := blk_cell (blk_below K1.out hb) 0; have c1 := blk_cell (blk_below K1.out hb) 1; have c2 := blk_cell (blk_below K1.out hb) 2; have d0 := blk_cell (blk_below K2.out hb) 0; have d1 := blk_cell (blk_below K2.out hb) 1; have d2 := blk_cell (blk_below K2.out hb) 2; have r0 := blk_cell (blk_below K3.out hb) 0; have r1 := blk_cell (blk_below K3.out hb) 1; have r2 := blk_cell (blk_below K3.out hb) 2; have f0 := blk_frozen (blk_below K3.out hb) 0; have f1 := blk_frozen (blk_below K3.out hb) 1; have f2 := blk_frozen (blk_below K3.out hb) 2))
                refine bodyPost_ret (results_single rfl (.cell (w.heap.size + 1 + 1) 35 #[.int .i64 (0), .int .i64 (0), .string (⟨#[]⟩)] (0, 0) _ rfl (blk_put (blk_put (blk_put (blk_below K3.out hb) 0 _ rfl) 1 _ rfl) 2 _ rfl) Tryd.underlying35 rfl (by kernel_rfl) .nil)) rfl ?_
                exact ⟨rfl, (((below_weaken HB2.out HB2.out.size hb).setCell (by show w.heap.size ≤ w.heap.size + 1 + 1; omega) _).setCell (by show w.heap.size ≤ w.heap.size + 1 + 1; omega) _).setCell (by show w.heap.size ≤ w.heap.size + 1 + 1; omega) _⟩
              · have e2 : (at' == bt) = false := by simp [h2]
                clear e5
                have HV := hid (show mrgW L ⟨ak, at', an⟩ ⟨bk, bt, bn⟩ = ⟨0, 0, ⟨#[]⟩⟩ from by unfold mrgW; rw [if_neg HN.out, if_neg HE.out, if_neg (show ¬ (ak = 4 ∧ bk = 5) from by omega), if_neg (show ¬ (ak = 5 ∧ bk = 4) from by omega), if_neg (show ¬ (ak = 5 ∧ bk = 5) from by omega)])
                rw [HV.out]
                try clear ha
                try clear hb'
                try clear h2
                try clear h1
                try clear h3
                go_enter Tryd.func49, Tryd.ntmps49
                go_upto_region 1 with fail
                rw [show ((w.alloc (.cells #[.int .i64 ak, .int .i64 at', .string an] 35)).alloc (.cells #[.int .i64 bk, .int .i64 bt, .string bn] 35)).alloc (.cells #[.int .i64 0, .int .i64 0, .string ⟨#[]⟩] 35) = w3 from HW3.out]
                have hb := Below.refl w3.heap.size w3
                have c0 := blk_cell (blk_below K1.out hb) 0
                have c1 := blk_cell (blk_below K1.out hb) 1
                have c2 := blk_cell (blk_below K1.out hb) 2
                have d0 := blk_cell (blk_below K2.out hb) 0
                have d1 := blk_cell (blk_below K2.out hb) 1
                have d2 := blk_cell (blk_below K2.out hb) 2
                have r0 := blk_cell (blk_below K3.out hb) 0
                have r1 := blk_cell (blk_below K3.out hb) 1
                have r2 := blk_cell (blk_below K3.out hb) 2
                have f0 := blk_frozen (blk_below K3.out hb) 0
                have f1 := blk_frozen (blk_below K3.out hb) 1
                have f2 := blk_frozen (blk_below K3.out hb) 2
                have HBz := hid hb
                clear hb
                go_wp2_with (first
                  | (go_at_call 18; refine HLE.out.mono ?_; rintro e w' ⟨rfl, hw⟩; obtain rfl := hw.symm)
                  | (go_at_call 103; refine (HMY.out _ _ _ _ _ (by first | exact HBz.out | assumption) (by first | exact Q1.out | exact Q2.out)).mono ?_; rintro e w' ⟨rfl, hB⟩; have hb := bel_tr (a := w3) (by first | exact HBz.out | assumption) hB; clear hB; have c0 := blk_cell (blk_below K1.out hb) 0; have c1 := blk_cell (blk_below K1.out hb) 1; have c2 := blk_cell (blk_below K1.out hb) 2; have d0 := blk_cell (blk_below K2.out hb) 0; have d1 := blk_cell (blk_below K2.out hb) 1; have d2 := blk_cell (blk_below K2.out hb) 2; have r0 := blk_cell (blk_below K3.out hb) 0; have r1 := blk_cell (blk_below K3.out hb) 1; have r2 := blk_cell (blk_below K3.out hb) 2; have f0 := blk_frozen (blk_below K3.out hb) 0; have f1 := blk_frozen (blk_below K3.out hb) 1; have f2 := blk_frozen (blk_below K3.out hb) 2)
                  | (go_at_call 104; refine (HTG.out _ (by assumption)).mono ?_; rintro e w' ⟨rfl, hB⟩; have hb := bel_tr (a := w3) (by assumption) hB; clear hB; have c0 := blk_cell (blk_below K1.out hb) 0; have c1 := blk_cell (blk_below K1.out hb) 1; have c2 := blk_cell (blk_below K1.out hb) 2; have d0 := blk_cell (blk_below K2.out hb) 0; have d1 := blk_cell (blk_below K2.out hb) 1; have d2 := blk_cell (blk_below K2.out hb) 2; have r0 := blk_cell (blk_below K3.out hb) 0; have r1 := blk_cell (blk_below K3.out hb) 1; have r2 := blk_cell (blk_below K3.out hb) 2; have f0 := blk_frozen (blk_below K3.out hb) 0; have f1 := blk_frozen (blk_below K3.out hb) 1; have f2 := blk_frozen (blk_below K3.out hb) 2))
                refine bodyPost_ret (results_single rfl (.cell (w.heap.size + 1 + 1) 35 #[.int .i64 (0), .int .i64 (0), .string (⟨#[]⟩)] (0, 0) _ rfl (blk_put (blk_put (blk_put (blk_below K3.out hb) 0 _ rfl) 1 _ rfl) 2 _ rfl) Tryd.underlying35 rfl (by kernel_rfl) .nil)) rfl ?_
                exact ⟨rfl, (((below_weaken HB2.out HB2.out.size hb).setCell (by show w.heap.size ≤ w.heap.size + 1 + 1; omega) _).setCell (by show w.heap.size ≤ w.heap.size + 1 + 1; omega) _).setCell (by show w.heap.size ≤ w.heap.size + 1 + 1; omega) _⟩
            · have e1 : (ak == bk) = false := by simp [h1]
              clear e5
              have HV := hid (show mrgW L ⟨ak, at', an⟩ ⟨bk, bt, bn⟩ = ⟨0, 0, ⟨#[]⟩⟩ from by unfold mrgW; rw [if_neg HN.out, if_neg HE.out, if_neg (show ¬ (ak = 4 ∧ bk = 5) from by omega), if_neg (show ¬ (ak = 5 ∧ bk = 4) from by omega), if_neg (show ¬ (ak = 5 ∧ bk = 5) from by omega)])
              rw [HV.out]
              try clear ha
              try clear hb'
              try clear h2
              try clear h1
              try clear h3
              go_enter Tryd.func49, Tryd.ntmps49
              go_upto_region 1 with fail
              rw [show ((w.alloc (.cells #[.int .i64 ak, .int .i64 at', .string an] 35)).alloc (.cells #[.int .i64 bk, .int .i64 bt, .string bn] 35)).alloc (.cells #[.int .i64 0, .int .i64 0, .string ⟨#[]⟩] 35) = w3 from HW3.out]
              have hb := Below.refl w3.heap.size w3
              have c0 := blk_cell (blk_below K1.out hb) 0
              have c1 := blk_cell (blk_below K1.out hb) 1
              have c2 := blk_cell (blk_below K1.out hb) 2
              have d0 := blk_cell (blk_below K2.out hb) 0
              have d1 := blk_cell (blk_below K2.out hb) 1
              have d2 := blk_cell (blk_below K2.out hb) 2
              have r0 := blk_cell (blk_below K3.out hb) 0
              have r1 := blk_cell (blk_below K3.out hb) 1
              have r2 := blk_cell (blk_below K3.out hb) 2
              have f0 := blk_frozen (blk_below K3.out hb) 0
              have f1 := blk_frozen (blk_below K3.out hb) 1
              have f2 := blk_frozen (blk_below K3.out hb) 2
              have HBz := hid hb
              clear hb
              go_wp2_with (first
                | (go_at_call 18; refine HLE.out.mono ?_; rintro e w' ⟨rfl, hw⟩; obtain rfl := hw.symm)
                | (go_at_call 103; refine (HMY.out _ _ _ _ _ (by first | exact HBz.out | assumption) (by first | exact Q1.out | exact Q2.out)).mono ?_; rintro e w' ⟨rfl, hB⟩; have hb := bel_tr (a := w3) (by first | exact HBz.out | assumption) hB; clear hB; have c0 := blk_cell (blk_below K1.out hb) 0; have c1 := blk_cell (blk_below K1.out hb) 1; have c2 := blk_cell (blk_below K1.out hb) 2; have d0 := blk_cell (blk_below K2.out hb) 0; have d1 := blk_cell (blk_below K2.out hb) 1; have d2 := blk_cell (blk_below K2.out hb) 2; have r0 := blk_cell (blk_below K3.out hb) 0; have r1 := blk_cell (blk_below K3.out hb) 1; have r2 := blk_cell (blk_below K3.out hb) 2; have f0 := blk_frozen (blk_below K3.out hb) 0; have f1 := blk_frozen (blk_below K3.out hb) 1; have f2 := blk_frozen (blk_below K3.out hb) 2)
                | (go_at_call 104; refine (HTG.out _ (by assumption)).mono ?_; rintro e w' ⟨rfl, hB⟩; have hb := bel_tr (a := w3) (by assumption) hB; clear hB; have c0 := blk_cell (blk_below K1.out hb) 0; have c1 := blk_cell (blk_below K1.out hb) 1; have c2 := blk_cell (blk_below K1.out hb) 2; have d0 := blk_cell (blk_below K2.out hb) 0; have d1 := blk_cell (blk_below K2.out hb) 1; have d2 := blk_cell (blk_below K2.out hb) 2; have r0 := blk_cell (blk_below K3.out hb) 0; have r1 := blk_cell (blk_below K3.out hb) 1; have r2 := blk_cell (blk_below K3.out hb) 2; have f0 := blk_frozen (blk_below K3.out hb) 0; have f1 := blk_frozen (blk_below K3.out hb) 1; have f2 := blk_frozen (blk_below K3.out hb) 2))
              refine bodyPost_ret (results_single rfl (.cell (w.heap.size + 1 + 1) 35 #[.int .i64 (0), .int .i64 (0), .string (⟨#[]⟩)] (0, 0) _ rfl (blk_put (blk_put (blk_put (blk_below K3.out hb) 0 _ rfl) 1 _ rfl) 2 _ rfl) Tryd.underlying35 rfl (by kernel_rfl) .nil)) rfl ?_
              exact ⟨rfl, (((below_weaken HB2.out HB2.out.size hb).setCell (by show w.heap.size ≤ w.heap.size + 1 + 1; omega) _).setCell (by show w.heap.size ≤ w.heap.size + 1 + 1; omega) _).setCell (by show w.heap.size ≤ w.heap.size + 1 + 1; omega) _⟩
end
end Go.Proofs.YtbogcknkkbnfnaaDoor

