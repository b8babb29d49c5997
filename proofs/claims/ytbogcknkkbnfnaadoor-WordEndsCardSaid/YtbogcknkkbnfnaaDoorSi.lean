/- The law WordEnds: a frame to which more and more comes changes only so often. Printed by mksi.py. -/
import Derived.Test.YtbogcknkkbnfnaaDoorU6
import Derived.Carry
import Derived.ShutString
import Derived.ChangeOld
import Derived.SizedLaws
namespace Go.Proofs.YtbogcknkkbnfnaaDoor
open Go.RowKit Go.Proofs.YtbogcknkkbnfnaaDoorW.PrintWords Go.Maps Go.WideMaps

theorem tog_sz {L : List Cl} (hL : ∀ i, i < L.length → (L.getD i zCl).name.size ≤ 9223372036854775807) (hz : ∀ a b : ByteArray, (commonOf L (numI L a).toNat (numI L b).toNat).toNat < L.length) {ak bk : Int} {an bn : ByteArray} (ha : an.size ≤ 9223372036854775807) : (togN L ak bk an bn).size ≤ 9223372036854775807 := by
  unfold togN
  split
  · exact ha
  · split
    · decide +kernel
    · exact hL _ (hz an bn)
theorem mrg_sz {L : List Cl} (hL : ∀ i, i < L.length → (L.getD i zCl).name.size ≤ 9223372036854775807) (hz : ∀ a b : ByteArray, (commonOf L (numI L a).toNat (numI L b).toNat).toNat < L.length) {a b : Wd} (ha : a.tn.size ≤ 9223372036854775807) (hb : b.tn.size ≤ 9223372036854775807) : (mrgW L a b).tn.size ≤ 9223372036854775807 := by
  unfold mrgW
  split
  · decide +kernel
  · split
    · exact ha
    · split
      · exact hb
      · split
        · exact ha
        · split
          · exact tog_sz hL hz ha
          · decide +kernel
theorem zWd_sz : zWd.tn.size ≤ 9223372036854775807 := by decide +kernel
theorem getD_sz {l : List Wd} (h : szW l) (i : Nat) : (l.getD i zWd).tn.size ≤ 9223372036854775807 := by
  by_cases hi : i < l.length
  · exact h _ (wd_mem hi)
  · rw [List.getD_eq_getElem?_getD, List.getElem?_eq_none (by omega), Option.getD_none]
    exact zWd_sz
theorem lists_sz {L : List Cl} (hL : ∀ i, i < L.length → (L.getD i zCl).name.size ≤ 9223372036854775807) (hz : ∀ a b : ByteArray, (commonOf L (numI L a).toNat (numI L b).toNat).toNat < L.length) {a b : List Wd} (ha : szW a) (hb : szW b) : szW (listsW L a b) := by
  intro x hx
  unfold listsW cutL at hx
  obtain ⟨i, _, rfl⟩ := List.mem_map.1 hx
  split
  · exact zWd_sz
  · refine getD_sz (fun y hy => ?_) i
    unfold mrgL at hy
    obtain ⟨j, _, rfl⟩ := List.mem_map.1 hy
    exact mrg_sz hL hz (getD_sz ha j) (getD_sz hb j)
/-- A row that came in, or was made behind block k. -/
def ERow (w : World) (k : Nat) (A : Option Addr) (n : Nat) (d : List Wd) (W : World) : Prop := kWd.C w A n d ∨ ∃ base, k < base ∧ LRow base A n d W
theorem ERow.C {w : World} {k : Nat} {A : Option Addr} {n : Nat} {d : List Wd} {W : World} (h : ERow w k A n d W) (hb : Below w.heap.size w W) (hn : n ≤ 9223372036854775807) : kWd.C W A n d := by
  rcases h with h | ⟨base, _, h⟩
  · exact Kd.C_below h hb
  · exact h.C hn
theorem ERow.len {w : World} {k : Nat} {A : Option Addr} {n : Nat} {d : List Wd} {W : World} (h : ERow w k A n d W) : d.length = n := by
  rcases h with h | ⟨_, _, h⟩
  · exact h.1
  · exact h.1
theorem ERow.step {w : World} {k : Nat} {A : Option Addr} {n : Nat} {d : List Wd} {W W' : World} (h : ERow w k A n d W) (hb : Below W.heap.size W W') : ERow w k A n d W' := by
  rcases h with h | ⟨base, h1, h⟩
  · exact .inl h
  · exact .inr ⟨base, h1, h.step hb⟩
theorem ERow.put2 {w : World} {k : Nat} {A : Option Addr} {n : Nat} {d : List Wd} {W : World} (h : ERow w k A n d W) (u v : Value) : ERow w k A n d ((W.setCell ⟨k, 0, none⟩ u).setCell ⟨k, 1, none⟩ v) := by
  rcases h with h | ⟨base, h1, h⟩
  · exact .inl h
  · exact .inr ⟨base, h1, h.put2 h1 u v⟩
/-- How the frame stands: at block k (the first one behind w2); so often it has changed, so high it stands. -/
structure EInv (L : List Cl) (w w2 : World) (k n1 n2 P0 m : Nat) (W : World) : Prop where
  ex : ∃ A c A' c' fl fs, W.heap[k]? = some (.cells #[.slice A n1 c, .slice A' n2 c'] 40 (0, 0)) ∧ ERow w k A n1 fl W ∧ ERow w k A' n2 fs W ∧ szW fl ∧ szW fs ∧ m + (potL L fl + potL L fs) ≤ P0
  below : Below w.heap.size w W
  below2 : Below k w2 W
  base : w.heap.size ≤ k
theorem EInv.step {L : List Cl} {w w2 : World} {k n1 n2 P0 m : Nat} {W W' : World} (h : EInv L w w2 k n1 n2 P0 m W) (hb : Below W.heap.size W W') : EInv L w w2 k n1 n2 P0 m W' := by
  obtain ⟨A, c, A', c', fl, fs, h1, h2, h3, h4, h5, h6⟩ := h.ex
  have hk := blk_lt h1
  exact ⟨⟨A, c, A', c', fl, fs, blk_below h1 hb, h2.step hb, h3.step hb, h4, h5, h6⟩, below_weaken h.below h.below.size hb, h.below2.trans (hb.mono (Nat.le_of_lt hk)), h.base⟩
theorem end_step {L : List Cl} (G : GoodOf L) (N : Named L) {fl fs gl gs : List Wd} (hok : okF L fl fs gl gs = true) : ((sameW fl (listsW L fl gl) && sameW fs (listsW L fs gs)) = true → listsW L fl gl = fl ∧ listsW L fs gs = fs) ∧ ((sameW fl (listsW L fl gl) && sameW fs (listsW L fs gs)) = false → potL L (listsW L fl gl) + potL L (listsW L fs gs) < potL L fl + potL L fs) := by
  unfold okF at hok
  simp only [Bool.and_eq_true, decide_eq_true_eq] at hok
  obtain ⟨ha, hb, hl, hs, _⟩ := hok
  unfold mayFrameW at ha hb
  simp only [Bool.and_eq_true] at ha hb
  have p1 := lists_pot G N (a := fl) (b := gl) (mayListW_may ha.1) (fun i hi => mayListW_may hb.1 i (by omega))
  have p2 := lists_pot G N (a := fs) (b := gs) (mayListW_may ha.2.1) (fun i hi => mayListW_may hb.2.1 i (by omega))
  constructor
  · intro h
    rw [Bool.and_eq_true, sameW_iff, sameW_iff] at h
    exact ⟨h.1.symm, h.2.symm⟩
  · intro h
    rcases p1 with p1 | p1 <;> rcases p2 with p2 | p2
    · rw [p1, p2, sameW_iff.2 rfl, sameW_iff.2 rfl] at h; cases h
    · rw [p1]; omega
    · rw [p2]; omega
    · omega
theorem fr_at {w : World} {b off n : Nat} {l : List (List Wd × List Wd)} (h : kFr.C w (some ⟨b, off, none⟩) n l) {i : Nat} (hi : i < n) : ∃ A1 c1 A2 c2, w.cell? ⟨b, off + i * 2, none⟩ = some (.slice A1 (l.getD i ([], [])).1.length c1) ∧ w.cell? ⟨b, off + i * 2 + 1, none⟩ = some (.slice A2 (l.getD i ([], [])).2.length c2) ∧ kWd.C w A1 (l.getD i ([], [])).1.length (l.getD i ([], [])).1 ∧ kWd.C w A2 (l.getD i ([], [])).2.length (l.getD i ([], [])).2 := by
  obtain ⟨hl, _, h3⟩ := h
  obtain ⟨ad, ea, h4⟩ := h3 (by omega)
  cases ea
  have hx : l[i]? = some (l.getD i ([], [])) := by simp [List.getD, show i < l.length by omega]
  obtain ⟨c, hc, hK, h5⟩ := h4 i _ hx
  obtain ⟨x1, x2, rfl, ⟨A1, c1, rfl, _, k1⟩, ⟨A2, c2, rfl, _, k2⟩⟩ := hK
  refine ⟨A1, c1, A2, c2, ?_, ?_, k1, k2⟩
  · have := h5 0 _ rfl
    rw [wd_add] at this
    exact this
  · have := h5 1 _ rfl
    rw [wd_add] at this
    rw [show off + i * 2 + 1 = off + (i * kFr.sz + 1) by show off + i * 2 + 1 = off + (i * 2 + 1); omega]
    exact this
namespace wordEnds
open Go.ChangeShapes Go.WideShapes Go.ChangeAt Go.RowKit
open Go.ChangeMaps (open_string shut_string)

set_option maxRecDepth 100000 in
set_option maxHeartbeats 4000000 in
theorem walk (A : Option Addr) (l : List Cl) (c : Nat) (Af : Option Addr) (lf : List (List Wd × List Wd)) (cf : Nat) (w : World) (hS : Bi w ∧ Wob w) (_ : l.length ≤ c) (hC : kCl.C w A l.length l) (hg : gCls l) (_ : lf.length ≤ cf) (hF : kFr.C w Af lf.length lf) (gf : gFrs lf) :
    Calls Tryd.prog 4 #[.slice A l.length c, .slice Af lf.length cf] w fun e w' => e = .returned (.bool true) ∧ Below w.heap.size w w' := by
  obtain ⟨hok, hb, hb2⟩ := gCls_ok hg
  obtain ⟨n, hn⟩ : ∃ n, l.length = n := ⟨_, rfl⟩
  obtain ⟨q, hq⟩ : ∃ n, lf.length = n := ⟨_, rfl⟩
  have hqb : q ≤ 8000000000000 := by
    have h3 : lf.length * 48 ≤ 140737488351232 := gf.1
    omega
  have GF := hid (show ∀ i, (lf.getD i ([], [])).1.length ≤ 5864062014805 ∧ szW (lf.getD i ([], [])).1 ∧ (lf.getD i ([], [])).2.length ≤ 5864062014805 ∧ szW (lf.getD i ([], [])).2 from fun i => by
    by_cases hi : i < lf.length
    · have hm : lf.getD i ([], []) ∈ lf := by simp [List.getD, hi]
      have := gf.2 _ hm
      exact ⟨(wds_ok this.1).1, (wds_ok this.1).2, (wds_ok this.2).1, (wds_ok this.2).2⟩
    · rw [List.getD_eq_getElem?_getD, List.getElem?_eq_none (by omega), Option.getD_none]
      exact ⟨by simp, fun x hx => (by cases hx), by simp, fun x hx => (by cases hx)⟩)
  rw [hn] at hb hb2 hC ⊢
  rw [hq] at hF ⊢
  have HB0 := hid (Below.refl w.heap.size w)
  have HC := hid hC
  have HF := hid hF
  have HN := hid hn
  have HOK := hid hok
  have HAW := hid (fun (W : World) (hW : Below w.heap.size w W) => wawake_any W (hS.1.below hS.1.lt hW) (hS.2.below hS.2.lt hW))
  have HST := hid (sets_any A c n l hn w hS.1 hC hb2 hok)
  have HOW := hid (fun (W : World) (hW : Below w.heap.size w W) => hS.2.below hS.2.lt hW)
  clear hok hn hq hC hg hS hF gf
  go_enter Tryd.func4, Tryd.ntmps4
  go_upto_region 2 with (go_at_call 10; refine HST.out.mono ?_; rintro e w2 ⟨hB2, hE⟩; have HB2 := hid hB2; clear hB2; rcases hE with ⟨_, rfl⟩ | ⟨r, p, pm, hs, hne, hl64, rfl, hIS, hRS⟩)
  · go_wp2_with (go_at_call 12; refine (HAW.out _ HB2.out).mono ?_; rintro e w3 ⟨rfl, hB⟩; have HB3 := hid (below_weaken HB2.out HB2.out.size hB); clear hB)
    go_ret
    exact ⟨rfl, HB3.out⟩
  · have N := hid (named_of hne)
    have HS := hid hIS
    clear hs hne hIS hRS hl64
    generalize builtL ++ r = L at *
    by_cases hq0 : q = 0
    · subst hq0
      go_wp2_with (go_at_call 12; refine (HAW.out _ HB2.out).mono ?_; rintro e w3 ⟨rfl, hB⟩; have HB3 := hid (below_weaken HB2.out HB2.out.size hB); clear hB)
      go_ret
      exact ⟨rfl, HB3.out⟩
    · have e0 : ((q : Int) == 0) = false := by simp; omega
      have l0 : (0 : Int) < q := by omega
      obtain ⟨b, off, hAf⟩ := C_plain HF.out (by omega) (by decide)
      subst hAf
      obtain ⟨A1, c1, A2, c2, x0, x1, h1, h2⟩ := fr_at HF.out (i := 0) (by omega)
      have R1 := hid h1
      have R2 := hid h2
      have x0' := (HB2.out.cell (World.block_lt_of_cell? w _ x0)).trans x0
      have x1' := (HB2.out.cell (World.block_lt_of_cell? w _ x1)).trans x1
      simp only [Nat.zero_mul, Nat.add_zero] at x0' x1'
      obtain ⟨hz1, hz2, hz3, hz4⟩ := GF.out 0
      have Z2 := hid hz2
      have Z4 := hid hz4
      clear x0 x1 h1 h2 hz2 hz4
      generalize (lf.getD 0 ([], [])).1 = fl at *
      generalize (lf.getD 0 ([], [])).2 = fs at *
      obtain ⟨n1, hn1⟩ : ∃ n, fl.length = n := ⟨_, rfl⟩
      obtain ⟨n2, hn2⟩ : ∃ n, fs.length = n := ⟨_, rfl⟩
      rw [hn1] at x0' hz1 R1
      rw [hn2] at x1' hz3 R2
      have HP0 := hid (show potL L fl + potL L fs ≤ (3 + L.length) * (n1 + n2) from by
        have p1 := potL_le HS.out.good N.out fl
        have p2 := potL_le HS.out.good N.out fs
        rw [hn1] at p1
        rw [hn2] at p2
        rw [Nat.mul_add]
        omega)
      have HNM := hid (show ∀ i, i < L.length → (L.getD i zCl).name.size ≤ 9223372036854775807 from fun i hi => by
        have := (HS.out.ok _ (getD_mem hi)).1
        omega)
      have HZZ := hid (show ∀ a b : ByteArray, (commonOf L (numI L a).toNat (numI L b).toNat).toNat < L.length from fun a b => by
        obtain ⟨cm, e1, e2⟩ := HS.out.common_nat (HS.out.num_lt a).1 (HS.out.num_lt b).1
        rw [e1]
        exact e2)
      have hLb := HS.out.big
      clear hn1 hn2
      go_upto_region 5 with fail
      have KF := hid (blk_new w2 (.cells #[.slice A1 n1 c1, .slice A2 n2 c2] 40))
      have HB3 := hid (below_alloc HB2.out (.cells #[.slice A1 n1 c1, .slice A2 n2 c2] 40))
      have HB32 := hid (below_alloc (Below.refl w2.heap.size w2) (.cells #[.slice A1 n1 c1, .slice A2 n2 c2] 40))
      have HSW := hid (fun (W : World) (hW : Below w2.heap.size w2 W) => HS.out.step hW)
      have HNA := hid N.out
      have HSTG := hid HS.out.good
      have HKb := hid HB2.out.size
      clear x0' x1'
      generalize w2.alloc (.cells #[.slice A1 n1 c1, .slice A2 n2 c2] 40) = w3 at *
      generalize w2.heap.size = k at *
      have HI0 := hid (show EInv L w w2 k n1 n2 (potL L fl + potL L fs) 0 w3 from ⟨⟨A1, c1, A2, c2, fl, fs, KF.out, .inl R1.out, .inl R2.out, Z2.out, Z4.out, by omega⟩, HB3.out, HB32.out, HKb.out⟩)
      have HPb := hid (show potL L fl + potL L fs ≤ 900000000000000 from by
        have := HP0.out
        have h75 : (3 + L.length) * (n1 + n2) ≤ 75 * (n1 + n2) := Nat.mul_le_mul_right _ (by omega)
        omega)
      generalize potL L fl + potL L fs = P0 at *
      clear R1 R2 Z2 Z4 KF HB3 HB32
      go_wp2_with fail
      go_loopw [8, 9] (fun mV rV wr => ∃ m rd : Nat, rd ≤ 3 ∧ mV = .int .i64 m ∧ rV = .int .i64 rd ∧ Hid (EInv L w w2 k n1 n2 P0 m wr)) (fun _ rV _ => 3 - (intOf rV).toNat)
      case atStart => exact ⟨0, 0, by omega, rfl, rfl, HI0⟩
      obtain ⟨m, rd, hrd, rfl, rfl, HI⟩ := hrel
      clear HI0
      by_cases hlt : rd < 3
      · have lrd : decide ((rd : Int) < 3) = true := decide_eq_true (by omega)
        go_wp2_with fail
        clear lrd
        go_loopw [8, 10] (fun mV iV wr => ∃ m i : Nat, i ≤ q ∧ mV = .int .i64 m ∧ iV = .int .i64 i ∧ Hid (EInv L w w2 k n1 n2 P0 m wr)) (fun _ iV _ => q - (intOf iV).toNat)
        case atStart => exact ⟨m, 0, by omega, rfl, rfl, HI⟩
        clear HI
        obtain ⟨m, i, hi, rfl, rfl, HI⟩ := hrel
        by_cases hiq : i < q ∧ i < 40
        · obtain ⟨h1, h2⟩ := hiq
          have li : (i : Int) < q := by omega
          have li40 : (i : Int) < 40 := by omega
          have li0 : (0 : Int) ≤ i := by omega
          obtain ⟨A, c', A', c'', fl, fs, hK, hr1, hr2, hs1, hs2, hp⟩ := HI.out.ex
          obtain ⟨B1, d1, B2, d2, y0, y1, g1, g2⟩ := fr_at HF.out h1
          have y0' := (HI.out.below.cell (World.block_lt_of_cell? w _ y0)).trans y0
          have y1' := (HI.out.below.cell (World.block_lt_of_cell? w _ y1)).trans y1
          obtain ⟨gz1, gz2, gz3, gz4⟩ := GF.out i
          have HR1 := hid hr1
          have HR2 := hid hr2
          have HK := hid hK
          have x0 := blk_cell hK 0
          have x1 := blk_cell hK 1
          have HKW := hid (blk_lt hK)
          have G1 := hid g1
          have G2 := hid g2
          have hmb : m ≤ 900000000000000 := by have := HPb.out; omega
          have HSZ := hid (show szW (listsW L fl (lf.getD i ([], [])).1) ∧ szW (listsW L fs (lf.getD i ([], [])).2) from ⟨lists_sz HNM.out HZZ.out hs1 gz2, lists_sz HNM.out HZZ.out hs2 gz4⟩)
          have HSS := hid (show szW fl ∧ szW fs ∧ szW (lf.getD i ([], [])).1 ∧ szW (lf.getD i ([], [])).2 from ⟨hs1, hs2, gz2, gz4⟩)
          have HLf := hid (show fl.length = n1 ∧ fs.length = n2 from ⟨hr1.len, hr2.len⟩)
          clear y0 y1 g1 g2 hK hr1 hr2 hs1 hs2 gz2 gz4
          generalize (lf.getD i ([], [])).1 = gl at *
          generalize (lf.getD i ([], [])).2 = gs at *
          obtain ⟨m1, hm1⟩ : ∃ n, gl.length = n := ⟨_, rfl⟩
          obtain ⟨m2, hm2⟩ : ∃ n, gs.length = n := ⟨_, rfl⟩
          rw [hm1] at y0' gz1 G1
          rw [hm2] at y1' gz3 G2
          clear hm1 hm2
          have HFR := hid (fun (W : World) (hW : Below wr.heap.size wr W) => frames_any (HSW.out W ((HI.out.step hW).below2)) (HOW.out W ((HI.out.step hW).below)) A A' B1 B2 c' c'' d1 d2 n1 n2 m1 m2 fl fs gl gs ((HR1.out.step hW).C ((HI.out.step hW).below) (by omega)) ((HR2.out.step hW).C ((HI.out.step hW).below) (by omega)) (Kd.C_below G1.out ((HI.out.step hW).below)) (Kd.C_below G2.out ((HI.out.step hW).below)) (by omega) (by omega) gz1 gz3 HSS.out.1 HSS.out.2.1 HSS.out.2.2.1 HSS.out.2.2.2)
          have HKP := hid (fun w' (hb : Below wr.heap.size wr w') => (⟨hb, (hb.cell (World.block_lt_of_cell? wr _ x0)).trans x0, (hb.cell (World.block_lt_of_cell? wr _ x1)).trans x1, (hb.cell (World.block_lt_of_cell? wr _ y0')).trans y0', (hb.cell (World.block_lt_of_cell? wr _ y1')).trans y1'⟩ : Below wr.heap.size wr w' ∧ w'.cell? ⟨k, 0, none⟩ = some (.slice A n1 c') ∧ w'.cell? ⟨k, 1, none⟩ = some (.slice A' n2 c'') ∧ w'.cell? ⟨b, off + i * 2, none⟩ = some (.slice B1 m1 d1) ∧ w'.cell? ⟨b, off + i * 2 + 1, none⟩ = some (.slice B2 m2 d2)))
          obtain ⟨ok, hokv⟩ : ∃ x, okF L fl fs gl gs = x := ⟨_, rfl⟩
          have HOKV := hid hokv
          clear hokv x0 x1 y0' y1'
          cases ok with
          | false =>
            have HFZ := hid (fun (W : World) (hW : Below wr.heap.size wr W) => (show Calls Tryd.prog 16 #[.pointer (some ⟨p, 0, none⟩), .agg #[.slice A n1 c', .slice A' n2 c''], .agg #[.slice B1 m1 d1, .slice B2 m2 d2]] W fun e w' => e = .returned (.tuple #[.agg #[.slice none 0 0, .slice none 0 0], .bool false]) ∧ Below W.heap.size W w' from (HFR.out W hW).mono (by
              rintro e w' ⟨hB, h⟩
              rcases h with ⟨h, _⟩ | ⟨_, rfl⟩
              · rw [HOKV.out] at h; cases h
              · exact ⟨rfl, hB⟩)))
            go_wp2_with fail
            go_region_held3 (fun w' => Below wr.heap.size wr w' ∧ w'.cell? ⟨k, 0, none⟩ = some (.slice A n1 c') ∧ w'.cell? ⟨k, 1, none⟩ = some (.slice A' n2 c'') ∧ w'.cell? ⟨b, off + i * 2, none⟩ = some (.slice B1 m1 d1) ∧ w'.cell? ⟨b, off + i * 2 + 1, none⟩ = some (.slice B2 m2 d2))
              (first | exact HKP.out _ (below_drew (Below.refl _ _)) | exact HKP.out _ (below_drew (below_alloc (Below.refl _ _) _)) | exact HKP.out _ (by assumption) | exact HKP.out _ (below_alloc (by first | assumption | exact And.left (by assumption)) _) | exact HKP.out _ (Below.setCell (Below.setCell (And.left (by assumption)) (by first | exact Nat.le_refl _ | assumption | (simp; done) | (simp; omega)) _) (by first | exact Nat.le_refl _ | assumption | (simp; done) | (simp; omega)) _))
              (first | (go_at_call 16; refine (HFZ.out _ (by first | exact below_drew (Below.refl _ _) | exact And.left (by assumption) | assumption)).mono ?_; rintro e wF ⟨rfl, hB⟩; have hX := bel_tr (a := wr) (by first | exact below_drew (Below.refl _ _) | exact And.left (by assumption) | assumption) hB; (first | (have hn := blk_below (blk_new _ _) hB; have o0 := blk_cell hn 0; have o1 := blk_cell hn 1; have g0 := blk_frozen hn 0; have g1 := blk_frozen hn 1) | (have hn := blk_below (blk_drew (blk_new _ _)) hB; have o0 := blk_cell hn 0; have o1 := blk_cell hn 1; have g0 := blk_frozen hn 0; have g1 := blk_frozen hn 1) | skip)))
            · have HW8 := hid (show Below wr.heap.size wr (wF.alloc (.cells #[.slice none 0 0, .slice none 0 0] 40)) from below_alloc hX _)
              rename_i hHeld
              clear hHeld
              generalize wF.alloc (.cells #[.slice none 0 0, .slice none 0 0] 40) = w8 at *
              go_wp2
              go_roundw
              case rel => exact ⟨m, i + 1, by omega, rfl, by go_num, hid (HI.out.step HW8.out)⟩
              case measure => simp [intOf]; omega
            · have HW8 := hid (show Below wr.heap.size wr ((wF.setCell ⟨wr.heap.size, 0, none⟩ (.slice none 0 0)).setCell ⟨wr.heap.size, 1, none⟩ (.slice none 0 0)) from (hX.setCell (Nat.le_refl _) _).setCell (Nat.le_refl _) _)
              clear hn o0 o1 g0 g1
              rename_i hHeld
              clear hHeld
              generalize (wF.setCell ⟨wr.heap.size, 0, none⟩ (.slice none 0 0)).setCell ⟨wr.heap.size, 1, none⟩ (.slice none 0 0) = w8 at *
              go_wp2
              go_roundw
              case rel => exact ⟨m, i + 1, by omega, rfl, by go_num, hid (HI.out.step HW8.out)⟩
              case measure => simp [intOf]; omega
          | true =>
            have HFY := hid (fun (W : World) (hW : Below wr.heap.size wr W) => (show Calls Tryd.prog 16 #[.pointer (some ⟨p, 0, none⟩), .agg #[.slice A n1 c', .slice A' n2 c''], .agg #[.slice B1 m1 d1, .slice B2 m2 d2]] W fun e w' => ∃ A0 e0 A0' e0', e = .returned (.tuple #[.agg #[.slice A0 n1 e0, .slice A0' n2 e0'], .bool true]) ∧ LRow W.heap.size A0 n1 (listsW L fl gl) w' ∧ LRow W.heap.size A0' n2 (listsW L fs gs) w' ∧ Below W.heap.size W w' from (HFR.out W hW).mono (by
              rintro e w' ⟨hB, h⟩
              rcases h with ⟨_, A0, e0, A0', e0', rfl, h1, h2⟩ | ⟨h, _⟩
              · rw [HLf.out.1] at h1 ⊢
                rw [HLf.out.2] at h2 ⊢
                exact ⟨A0, e0, A0', e0', rfl, h1, h2, hB⟩
              · rw [HOKV.out] at h; cases h)))
            go_wp2_with fail
            go_region_held3 (fun w' => Below wr.heap.size wr w' ∧ w'.cell? ⟨k, 0, none⟩ = some (.slice A n1 c') ∧ w'.cell? ⟨k, 1, none⟩ = some (.slice A' n2 c'') ∧ w'.cell? ⟨b, off + i * 2, none⟩ = some (.slice B1 m1 d1) ∧ w'.cell? ⟨b, off + i * 2 + 1, none⟩ = some (.slice B2 m2 d2))
              (first | exact HKP.out _ (below_drew (Below.refl _ _)) | exact HKP.out _ (below_drew (below_alloc (Below.refl _ _) _)) | exact HKP.out _ (by assumption) | exact HKP.out _ (below_alloc (by first | assumption | exact And.left (by assumption)) _) | exact HKP.out _ (Below.setCell (Below.setCell (And.left (by assumption)) (by first | exact Nat.le_refl _ | assumption | (simp; done) | (simp; omega)) _) (by first | exact Nat.le_refl _ | assumption | (simp; done) | (simp; omega)) _))
              (first | (go_at_call 16; refine (HFY.out _ (by first | exact below_drew (Below.refl _ _) | exact And.left (by assumption) | assumption)).mono ?_; rintro e wF ⟨A0, e0, A0', e0', rfl, hL, hM, hB⟩; have hX := bel_tr (a := wr) (by first | exact below_drew (Below.refl _ _) | exact And.left (by assumption) | assumption) hB; (first | (have hn := blk_below (blk_new _ _) hB; have o0 := blk_cell hn 0; have o1 := blk_cell hn 1; have g0 := blk_frozen hn 0; have g1 := blk_frozen hn 1) | (have hn := blk_below (blk_drew (blk_new _ _)) hB; have o0 := blk_cell hn 0; have o1 := blk_cell hn 1; have g0 := blk_frozen hn 0; have g1 := blk_frozen hn 1) | skip)))
            · have HF8 := hid (blk_new wF (.cells #[.slice A0 n1 e0, .slice A0' n2 e0'] 40))
              have HW8 := hid (show Below wr.heap.size wr (wF.alloc (.cells #[.slice A0 n1 e0, .slice A0' n2 e0'] 40)) from below_alloc hX _)
              have HQ1 := hid (show ERow w k A0 n1 (listsW L fl gl) (wF.alloc (.cells #[.slice A0 n1 e0, .slice A0' n2 e0'] 40)) from .inr ⟨_, HKW.out, (hL.lower (by simp)).step (below_alloc (Below.refl _ _) _)⟩)
              have HQ2 := hid (show ERow w k A0' n2 (listsW L fs gs) (wF.alloc (.cells #[.slice A0 n1 e0, .slice A0' n2 e0'] 40)) from .inr ⟨_, HKW.out, (hM.lower (by simp)).step (below_alloc (Below.refl _ _) _)⟩)
              rename_i hHeld
              clear hHeld
              generalize wF.alloc (.cells #[.slice A0 n1 e0, .slice A0' n2 e0'] 40) = w8 at *
              clear hB hX hL hM
              generalize wF.heap.size = k11 at *
              have HE8 := hid (HI.out.step HW8.out)
              have K8 := hid (blk_below HK.out HW8.out)
              have HC1 := hid ((HR1.out.step HW8.out).C HE8.out.below (by omega))
              have HC2 := hid ((HR2.out.step HW8.out).C HE8.out.below (by omega))
              have HG1 := hid (HQ1.out.C HE8.out.below (by omega))
              have HG2 := hid (HQ2.out.C HE8.out.below (by omega))
              have a0 := blk_cell K8.out 0
              have a1 := blk_cell K8.out 1
              have b0 := blk_cell HF8.out 0
              have b1' := blk_cell HF8.out 1
              obtain ⟨sm, hsm⟩ : ∃ x, (sameW fl (listsW L fl gl) && sameW fs (listsW L fs gs)) = x := ⟨_, rfl⟩
              have HSM := hid (show Calls Tryd.prog 17 #[.agg #[.slice A n1 c', .slice A' n2 c''], .agg #[.slice A0 n1 e0, .slice A0' n2 e0']] w8 fun e w' => e = .returned (.bool sm) ∧ Below w8.heap.size w8 w' from by
                have := same_any A A' A0 A0' c' c'' e0 e0' n1 n2 n1 n2 fl fs _ _ w8 HC1.out HC2.out HG1.out HG2.out (by omega) (by omega) (by omega) (by omega)
                rw [hsm] at this
                exact this)
              have HST2 := hid (end_step HSTG.out HNA.out HOKV.out)
              have HSMV := hid hsm
              have HPOT := hid hp
              clear hsm hp
              cases sm with
              | false =>
                have HPN := hid (show m + 1 + (potL L (listsW L fl gl) + potL L (listsW L fs gs)) ≤ P0 from by have := HST2.out.2 HSMV.out; have := HPOT.out; omega)
                go_wp2_with (go_at_call 17; refine HSM.out.mono ?_; rintro e w9 ⟨rfl, hB⟩; have HB9 := hid hB; clear hB; have f0 := blk_frozen (blk_below K8.out HB9.out) 0; have f1 := blk_frozen (blk_below K8.out HB9.out) 1; have a0 := blk_cell (blk_below K8.out HB9.out) 0; have a1 := blk_cell (blk_below K8.out HB9.out) 1; have b0 := blk_cell (blk_below HF8.out HB9.out) 0; have b1' := blk_cell (blk_below HF8.out HB9.out) 1)
                go_roundw
                case rel => exact ⟨m + 1, i + 1, by omega, by go_num, by go_num, hid ⟨⟨A0, e0, A0', e0', _, _, blk_put (blk_put (blk_below K8.out HB9.out) 0 _ rfl) 1 _ rfl, (HQ1.out.step HB9.out).put2 _ _, (HQ2.out.step HB9.out).put2 _ _, HSZ.out.1, HSZ.out.2, HPN.out⟩, ((HE8.out.step HB9.out).below.setCell HI.out.base _).setCell HI.out.base _, ((HE8.out.step HB9.out).below2.setCell (Nat.le_refl _) _).setCell (Nat.le_refl _) _, HI.out.base⟩⟩
                case measure => simp [intOf]; omega
              | true =>
                have HPN := hid (show m + (potL L (listsW L fl gl) + potL L (listsW L fs gs)) ≤ P0 from by have := HST2.out.1 HSMV.out; rw [this.1, this.2]; exact HPOT.out)
                go_wp2_with (go_at_call 17; refine HSM.out.mono ?_; rintro e w9 ⟨rfl, hB⟩; have HB9 := hid hB; clear hB; have f0 := blk_frozen (blk_below K8.out HB9.out) 0; have f1 := blk_frozen (blk_below K8.out HB9.out) 1; have a0 := blk_cell (blk_below K8.out HB9.out) 0; have a1 := blk_cell (blk_below K8.out HB9.out) 1; have b0 := blk_cell (blk_below HF8.out HB9.out) 0; have b1' := blk_cell (blk_below HF8.out HB9.out) 1)
                go_roundw
                case rel => exact ⟨m, i + 1, by omega, rfl, by go_num, hid ⟨⟨A0, e0, A0', e0', _, _, blk_put (blk_put (blk_below K8.out HB9.out) 0 _ rfl) 1 _ rfl, (HQ1.out.step HB9.out).put2 _ _, (HQ2.out.step HB9.out).put2 _ _, HSZ.out.1, HSZ.out.2, HPN.out⟩, ((HE8.out.step HB9.out).below.setCell HI.out.base _).setCell HI.out.base _, ((HE8.out.step HB9.out).below2.setCell (Nat.le_refl _) _).setCell (Nat.le_refl _) _, HI.out.base⟩⟩
                case measure => simp [intOf]; omega
            · have HF8 := hid (blk_put (blk_put hn 0 (.slice A0 n1 e0) rfl) 1 (.slice A0' n2 e0') rfl)
              have HW8 := hid (show Below wr.heap.size wr ((wF.setCell ⟨wr.heap.size, 0, none⟩ (.slice A0 n1 e0)).setCell ⟨wr.heap.size, 1, none⟩ (.slice A0' n2 e0')) from (hX.setCell (Nat.le_refl _) _).setCell (Nat.le_refl _) _)
              have HQ1 := hid (show ERow w k A0 n1 (listsW L fl gl) ((wF.setCell ⟨wr.heap.size, 0, none⟩ (.slice A0 n1 e0)).setCell ⟨wr.heap.size, 1, none⟩ (.slice A0' n2 e0')) from .inr ⟨_, HKW.out, (hL.put2 (by simp) _ _).lower (by simp)⟩)
              have HQ2 := hid (show ERow w k A0' n2 (listsW L fs gs) ((wF.setCell ⟨wr.heap.size, 0, none⟩ (.slice A0 n1 e0)).setCell ⟨wr.heap.size, 1, none⟩ (.slice A0' n2 e0')) from .inr ⟨_, HKW.out, (hM.put2 (by simp) _ _).lower (by simp)⟩)
              clear hn o0 o1 g0 g1
              rename_i hHeld
              clear hHeld
              generalize (wF.setCell ⟨wr.heap.size, 0, none⟩ (.slice A0 n1 e0)).setCell ⟨wr.heap.size, 1, none⟩ (.slice A0' n2 e0') = w8 at *
              clear hB hX hL hM
              have HE8 := hid (HI.out.step HW8.out)
              have K8 := hid (blk_below HK.out HW8.out)
              have HC1 := hid ((HR1.out.step HW8.out).C HE8.out.below (by omega))
              have HC2 := hid ((HR2.out.step HW8.out).C HE8.out.below (by omega))
              have HG1 := hid (HQ1.out.C HE8.out.below (by omega))
              have HG2 := hid (HQ2.out.C HE8.out.below (by omega))
              have a0 := blk_cell K8.out 0
              have a1 := blk_cell K8.out 1
              have b0 := blk_cell HF8.out 0
              have b1' := blk_cell HF8.out 1
              obtain ⟨sm, hsm⟩ : ∃ x, (sameW fl (listsW L fl gl) && sameW fs (listsW L fs gs)) = x := ⟨_, rfl⟩
              have HSM := hid (show Calls Tryd.prog 17 #[.agg #[.slice A n1 c', .slice A' n2 c''], .agg #[.slice A0 n1 e0, .slice A0' n2 e0']] w8 fun e w' => e = .returned (.bool sm) ∧ Below w8.heap.size w8 w' from by
                have := same_any A A' A0 A0' c' c'' e0 e0' n1 n2 n1 n2 fl fs _ _ w8 HC1.out HC2.out HG1.out HG2.out (by omega) (by omega) (by omega) (by omega)
                rw [hsm] at this
                exact this)
              have HST2 := hid (end_step HSTG.out HNA.out HOKV.out)
              have HSMV := hid hsm
              have HPOT := hid hp
              clear hsm hp
              cases sm with
              | false =>
                have HPN := hid (show m + 1 + (potL L (listsW L fl gl) + potL L (listsW L fs gs)) ≤ P0 from by have := HST2.out.2 HSMV.out; have := HPOT.out; omega)
                go_wp2_with (go_at_call 17; refine HSM.out.mono ?_; rintro e w9 ⟨rfl, hB⟩; have HB9 := hid hB; clear hB; have f0 := blk_frozen (blk_below K8.out HB9.out) 0; have f1 := blk_frozen (blk_below K8.out HB9.out) 1; have a0 := blk_cell (blk_below K8.out HB9.out) 0; have a1 := blk_cell (blk_below K8.out HB9.out) 1; have b0 := blk_cell (blk_below HF8.out HB9.out) 0; have b1' := blk_cell (blk_below HF8.out HB9.out) 1)
                go_roundw
                case rel => exact ⟨m + 1, i + 1, by omega, by go_num, by go_num, hid ⟨⟨A0, e0, A0', e0', _, _, blk_put (blk_put (blk_below K8.out HB9.out) 0 _ rfl) 1 _ rfl, (HQ1.out.step HB9.out).put2 _ _, (HQ2.out.step HB9.out).put2 _ _, HSZ.out.1, HSZ.out.2, HPN.out⟩, ((HE8.out.step HB9.out).below.setCell HI.out.base _).setCell HI.out.base _, ((HE8.out.step HB9.out).below2.setCell (Nat.le_refl _) _).setCell (Nat.le_refl _) _, HI.out.base⟩⟩
                case measure => simp [intOf]; omega
              | true =>
                have HPN := hid (show m + (potL L (listsW L fl gl) + potL L (listsW L fs gs)) ≤ P0 from by have := HST2.out.1 HSMV.out; rw [this.1, this.2]; exact HPOT.out)
                go_wp2_with (go_at_call 17; refine HSM.out.mono ?_; rintro e w9 ⟨rfl, hB⟩; have HB9 := hid hB; clear hB; have f0 := blk_frozen (blk_below K8.out HB9.out) 0; have f1 := blk_frozen (blk_below K8.out HB9.out) 1; have a0 := blk_cell (blk_below K8.out HB9.out) 0; have a1 := blk_cell (blk_below K8.out HB9.out) 1; have b0 := blk_cell (blk_below HF8.out HB9.out) 0; have b1' := blk_cell (blk_below HF8.out HB9.out) 1)
                go_roundw
                case rel => exact ⟨m, i + 1, by omega, rfl, by go_num, hid ⟨⟨A0, e0, A0', e0', _, _, blk_put (blk_put (blk_below K8.out HB9.out) 0 _ rfl) 1 _ rfl, (HQ1.out.step HB9.out).put2 _ _, (HQ2.out.step HB9.out).put2 _ _, HSZ.out.1, HSZ.out.2, HPN.out⟩, ((HE8.out.step HB9.out).below.setCell HI.out.base _).setCell HI.out.base _, ((HE8.out.step HB9.out).below2.setCell (Nat.le_refl _) _).setCell (Nat.le_refl _) _, HI.out.base⟩⟩
                case measure => simp [intOf]; omega
        · by_cases h1 : i < q
          · have li : (i : Int) < q := by omega
            have li40 : decide ((i : Int) < 40) = false := decide_eq_false (by omega)
            clear hiq
            go_wp2
            go_roundw
            case rel => exact ⟨m, rd + 1, by omega, rfl, by go_num, HI⟩
            case measure => simp [intOf]; omega
          · have li : decide ((i : Int) < q) = false := decide_eq_false (by omega)
            clear hiq
            go_wp2
            go_roundw
            case rel => exact ⟨m, rd + 1, by omega, rfl, by go_num, HI⟩
            case measure => simp [intOf]; omega
      · obtain ⟨A, c', A', c'', fl, fs, hK, _, _, _, _, hp⟩ := HI.out.ex
        have HK := hid hK
        have x0 : ∀ W, (ov wr W).cell? ⟨k, 0, none⟩ = some (.slice A n1 c') := ov_cell (blk_cell hK 0)
        have x1 : ∀ W, (ov wr W).cell? ⟨k, 1, none⟩ = some (.slice A' n2 c'') := ov_cell (blk_cell hK 1)
        have hfin : (m : Int) ≤ (3 + (L.length : Int)) * ((n1 : Int) + n2) := by
          have h1 : m ≤ (3 + L.length) * (n1 + n2) := by have := HP0.out; omega
          have h2 : (((3 + L.length) * (n1 + n2) : Nat) : Int) = (3 + (L.length : Int)) * ((n1 : Int) + n2) := by simp
          omega
        have hup : (3 + (L.length : Int)) * ((n1 : Int) + n2) ≤ 900000000000000 := by
          have h1 : (3 + L.length) * (n1 + n2) ≤ 75 * (n1 + n2) := Nat.mul_le_mul_right _ (by omega)
          have h2 : (((3 + L.length) * (n1 + n2) : Nat) : Int) = (3 + (L.length : Int)) * ((n1 : Int) + n2) := by simp
          omega
        have hd : decide ((m : Int) ≤ (3 + (L.length : Int)) * ((n1 : Int) + n2)) = true := decide_eq_true hfin
        have wp1 : IntKind.i64.wrap (3 + (L.length : Int)) = 3 + (L.length : Int) := IntWalk.i64_in _ (by omega)
        have wp2 : IntKind.i64.wrap ((n1 : Int) + n2) = (n1 : Int) + n2 := IntWalk.i64_in _ (by omega)
        have wp3 : IntKind.i64.wrap ((3 + (L.length : Int)) * ((n1 : Int) + n2)) = (3 + (L.length : Int)) * ((n1 : Int) + n2) := IntWalk.i64_in _ (by omega)
        have HLE := hid (fun (W : World) (hW : Below wr.heap.size wr W) => len_any (HSW.out W ((HI.out.step hW).below2)))
        have HA4 := hid (fun (W : World) (hW : Below wr.heap.size wr W) => HAW.out W ((HI.out.step hW).below))
        clear hK hp hfin hup
        generalize L.length = NN at *
        go_wp2_with fail
        refine wp_region_ov (w0 := wr) (by kernel_rfl) (by kernel_rfl) (Below.refl _ _) ?_
        repeat (first | go_big_quiet_skip | (go_big_quiet_want; go_big_quiet_op; first | go_big_quiet_on | (apply Exists.intro; refine ⟨fun WW => ?_, ?_⟩; (first | (go_at_call 18; exact calls_ov_same (HLE.out _ (ov_below _ _))) | (go_at_call 12; exact calls_ov (HA4.out _ (ov_below _ _)))); go_big_quiet_on)))
        refine wpQuiet_nil ?_
        rintro _ ⟨WQ, rfl⟩
        have HY := hid (ov_below wr WQ)
        go_wp2
        go_ret
        exact ⟨rfl, below_weaken HI.out.below HI.out.below.size HY.out⟩
set_option maxRecDepth 100000 in
theorem lifted (os : Os) (started : os.Started) (H : Type) (enc : TypeId × Value → H) :
    ReturnsInHanded {} Tryd.checked os 4 .any (fun w args => (Rows.wordEndsSpec.pre enc Tryd.prog Tryd.f4 [] false w args ∧ laidMetH Tryd.prog [("warpbeam/link.builtIn", Rows.laid_warpbeam_link_builtIn), ("warpbeam/word.object", Rows.laid_warpbeam_word_object)] w) ∧ sizedMet enc Tryd.prog Tryd.f4 (OpenSpec.ofChange Rows.wordEndsSpec) false w args)
      (Rows.wordEndsSpec.post enc Tryd.prog Tryd.f4 false true false false) := by
  refine returnsInHanded_of_change_and (C := Tryd.checked) (X := fun w _ => laidMetH Tryd.prog [("warpbeam/link.builtIn", Rows.laid_warpbeam_link_builtIn), ("warpbeam/word.object", Rows.laid_warpbeam_word_object)] w) (fun _ _ _ hh h => h.of_heap hh) own started (by kernel_rfl) Tryd.func4
    (ChangeSpec.witness_shaped (enc := enc) (C := Tryd.checked) (os := os) (X := fun w _ => laidMetH Tryd.prog [("warpbeam/link.builtIn", Rows.laid_warpbeam_link_builtIn), ("warpbeam/word.object", Rows.laid_warpbeam_word_object)] w) false (World.doorLaid Tryd.prog 400 os) #[.slice none 0 0, .slice none 0 0] 8 rfl (World.shaped_of_RefB (by kernel_rfl) (by kernel_rfl)) (by kernel_rfl) (by kernel_rfl) (by kernel_rfl) (door_met2 os _)) ?_
  intro W base args ds gs before hval0 hW hcnd hsz0 hL _
  have hval : ∀ (j : Nat) t v, Tryd.f4.params[j]? = some t → args[j]? = some v → Value.okWide Tryd.prog W .any base t v := hval0
  have hsz : (DataW.weightsEach Tryd.prog (Tryd.f4.params.toList ++ Rows.wordEndsSpec.plain.varTypes Tryd.prog) (ds ++ gs)).all (· ≤ reachBytes) = true := hsz0
  have hW' := hW
  obtain ⟨p, q, hA0, hV, rfl, hfz, hnd⟩ := hW
  have hA : DataW.TrodAll enc Tryd.prog W 0 (fun _ => true) true Tryd.f4.params.toList args.toList ds p := hA0
  rw [Tryd.params4] at hA hval hsz
  obtain ⟨v0, vs0, d0, ds0, p0, q0, hargs, rfl, rfl, h0, r0⟩ := trodAll_cons hA
  obtain ⟨v1, vs1, d1, ds1, p1, q1, rfl, rfl, rfl, h1, r1⟩ := trodAll_cons r0
  obtain ⟨rfl, rfl, rfl⟩ := trodAll_nil r1
  obtain rfl : args = #[v0, v1] := by cases args; simp_all
  obtain ⟨rfl, rfl⟩ := trodVars_none hV
  have y0 := h0
  obtain ⟨A0, l0, c0, rfl, k0, C0, g0⟩ := openCls (hval 0 22 v0 rfl rfl) h0 (Op.weights_of hsz (j := 0) rfl rfl)
  have y1 := h1
  obtain ⟨A1, l1, c1, rfl, k1, C1, g1⟩ := openFrs (hval 1 38 v1 rfl rfl) h1 (Op.weights_of hsz (j := 1) rfl rfl)
  have hS := bw_of_laid hL
  clear hA0 hval0 hsz0 hsz
  refine (walk A0 l0 c0 A1 l1 c1 W hS k0 C0 g0 k1 C1 g1).mono fun e W' ⟨he, bel⟩ => ?_
  subst he
  exact ⟨_, rfl, _, _, _, [], _, [], hW', trodAll_mk1 (shut_bool Tryd.underlying4 _), (trodAll_cons_mk (Below.trod laidOut (by kernel_rfl) (of_decide_eq_true (by kernel_rfl)) y0 bel (Op.trod_places y0)) (trodAll_cons_mk (Below.trod laidOut (by kernel_rfl) (of_decide_eq_true (by kernel_rfl)) y1 bel (Op.trod_places y1)) trodAll_mk0)), rfl, bel.frame _, fun h => by cases h⟩

theorem over : Rows.WordEndsSaid :=
  OpenClaim.holds_of_wide 4 Tryd.f4 rfl rfl rfl rfl rfl rfl rfl ⟨rfl, rfl, rfl, rfl, rfl⟩ rfl rfl rfl rfl rfl (by kernel_rfl) Tryd.func4 (by kernel_rfl)
    (of_decide_eq_true (by kernel_rfl)) (by unfold Func.isWrapper; first | (rw [if_pos (by decide +kernel)]; kernel_rfl) | (rw [if_neg (by decide +kernel)]; exact ⟨rfl, rfl⟩))
    (fun os started H enc _ => lifted os started H enc)

end wordEnds
end Go.Proofs.YtbogcknkkbnfnaaDoor
