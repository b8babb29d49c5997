/- The law LinkNumbers: the numbers of classes, what stands right above them, or why there is no set, and whose name it is, is the document's. Printed by mknn.py. -/
import Derived.Test.YtlihpmhnlooapaaDoorR7
import Derived.BigQuiet
import Derived.Carry
import Derived.ShutString
import Derived.ChangeOld
import Derived.SizedLaws
namespace Go.Proofs.YtlihpmhnlooapaaDoor
section
open Go.RowKit Go.Proofs.YtlihpmhnlooapaaDoorW.PrintWords Go.Maps Go.WideMaps
set_option maxRecDepth 100000 in
set_option maxHeartbeats 4000000 in
theorem eqIntsL_any (A1 A2 : Option Addr) (c1 c2 : Nat) (xs ys : List Int) (w : World) (h1 : kI.C w A1 xs.length xs) (h2 : kI.C w A2 ys.length ys) (hx : xs.length ≤ 10000000000000) (hy : ys.length ≤ 10000000000000) : Calls Tryd.prog 23 #[.slice A1 xs.length c1, .slice A2 ys.length c2] w fun e w' => e = .returned (.bool (xs == ys)) ∧ Below w.heap.size w w' := by
  have H1 := hid h1
  have H2 := hid h2
  obtain ⟨n, hn⟩ : ∃ n, xs.length = n := ⟨_, rfl⟩
  obtain ⟨m, hm⟩ : ∃ m, ys.length = m := ⟨_, rfl⟩
  have HN := hid hn
  have HM := hid hm
  rw [hn] at hx ⊢
  rw [hm] at hy ⊢
  clear h1 h2 hn hm
  by_cases hnm : n = m
  · subst hnm
    go_enter Tryd.func23, Tryd.ntmps23
    go_wp2
    go_loopw [5] (fun iV wr => ∃ k : Nat, k ≤ n ∧ iV = .int .i64 k ∧ Hid (Below w.heap.size w wr) ∧ Hid (∀ j, j < k → xs[j]? = ys[j]?)) (fun iV _ => n - (intOf iV).toNat)
    case atStart => exact ⟨0, by omega, rfl, Below.refl _ _, fun j hj => by omega⟩
    obtain ⟨k, hk, rfl, HB, HD⟩ := hrel
    by_cases hlt : k < n
    · have g1 := Kd.C_below H1.out HB.out
      have g2 := Kd.C_below H2.out HB.out
      obtain ⟨b1, o1, hA1⟩ := C_plain g1 (by rw [HN.out]; omega) (by decide)
      obtain ⟨b2, o2, hA2⟩ := C_plain g2 (by rw [HM.out]; omega) (by decide)
      subst hA1 hA2
      have d1 := C_scalar (h1 := fun _ => rfl) g1 0 k (by rw [HN.out]; exact hlt)
      have d2 := C_scalar (h1 := fun _ => rfl) g2 0 k (by rw [HM.out]; exact hlt)
      have x1 : xs[k]? = some (xs[k]'(by rw [HN.out]; exact hlt)) := List.getElem?_eq_getElem _
      have x2 : ys[k]? = some (ys[k]'(by rw [HM.out]; exact hlt)) := List.getElem?_eq_getElem _
      obtain ⟨u, hu⟩ : ∃ u, xs[k]? = some u := ⟨_, x1⟩
      obtain ⟨v, hv⟩ : ∃ v, ys[k]? = some v := ⟨_, x2⟩
      rw [List.getD_eq_getElem?_getD, hu, Option.getD_some] at d1
      rw [List.getD_eq_getElem?_getD, hv, Option.getD_some] at d2
      have HU := hid hu
      have HV := hid hv
      clear g1 g2 x1 x2 hu hv
      by_cases huv : u = v
      · have HE := hid huv
        have b0 : (u != v) = false := by simp [huv]
        clear huv
        go_wp2_with fail
        go_quiet (fail)
        go_wp2_with fail
        go_roundw
        case rel => exact ⟨k + 1, by omega, by go_num, pw_below_drewN HB.out _, fun j hj => by
          by_cases e : j = k
          · rw [e, HU.out, HV.out, HE.out]
          · exact HD.out j (by omega)⟩
        case measure => simp [intOf]; omega
      · have b0 : (u != v) = true := by simp [huv]
        have HE := hid (show (xs == ys) = false by
          rw [beq_eq_false_iff_ne]
          intro e
          rw [e, HV.out] at HU
          exact huv (Option.some.inj HU.out).symm)
        clear huv
        go_wp2_with fail
        go_quiet (fail)
        go_wp2_with fail
        go_ret
        exact ⟨by rw [HE.out]; rfl, pw_below_drewN HB.out _⟩
    · have HE := hid (show (xs == ys) = true by
        rw [beq_iff_eq]
        apply List.ext_getElem?
        intro j
        by_cases hj : j < n
        · exact HD.out j (by omega)
        · rw [List.getElem?_eq_none (by rw [HN.out]; omega), List.getElem?_eq_none (by rw [HM.out]; omega)])
      go_wp2
      go_ret
      exact ⟨by rw [HE.out]; rfl, HB.out⟩
  · have b1 : ((n : Int) != (m : Int)) = true := by simp; omega
    have HE := hid (show (xs == ys) = false by
      rw [beq_eq_false_iff_ne]
      intro e
      apply hnm
      rw [← HN.out, ← HM.out, e])
    clear hnm
    go_enter Tryd.func23, Tryd.ntmps23
    go_wp2
    go_ret
    exact ⟨by rw [HE.out]; rfl, Below.refl _ _⟩
theorem headsR (A : Option Addr) (c : Nat) (l : List Cl) (n : Nat) (hn : l.length = n) (w : World) (hC : kCl.C w A n l) (hb : n ≤ 1034834473171) (hok : ∀ x ∈ l, clOk x) :
    Calls Tryd.prog 15 #[.slice A n c] w fun e w' => ∃ A1 c1, e = .returned (.slice A1 n c1) ∧ kCl.R 41 w' w.heap.size (fun _ => True) (.slice A1 n c1) (l.map headOf) ∧ kCl.C w' A1 n (l.map headOf) ∧ Below w.heap.size w w' := by
  subst hn
  refine (heads_any A c l w hC hb hok).mono ?_
  rintro e w' ⟨v, rfl, hR, hB⟩
  obtain ⟨A', c', rfl⟩ := Kd.R_slice hR
  have h3 := (Kd.R_reads' hR).2.2
  rw [List.length_map] at h3 hR ⊢
  exact ⟨A', c', rfl, hR, h3, hB⟩
/-- What both News answer. -/
def NumNew (A : Option Addr) (n c : Nat) (w w1 : World) (e : Ending) (w2 : World) : Prop :=
  Below w1.heap.size w1 w2 ∧ ((∃ s x, e = .returned (.tuple #[.pointer none, .string s, .int .i64 x]) ∧ ∀ W, Below w.heap.size w W → Calls Tryd.prog 25 #[.slice A n c] W fun e w' => e = .returned (.tuple #[.pointer none, .string s, .int .i64 x]) ∧ Below W.heap.size W w') ∨
    ∃ r p, e = .returned (.tuple #[.pointer (some ⟨p, 0, none⟩), .string ⟨#[]⟩, .int .i64 0]) ∧ IsSet w1.heap.size p (builtL ++ r) w2 ∧ ∀ W, Below w.heap.size w W → Calls Tryd.prog 25 #[.slice A n c] W fun e w' => ∃ p r', e = .returned (.tuple #[.pointer (some ⟨p, 0, none⟩), .string ⟨#[]⟩, .int .i64 0]) ∧ RSet w W.heap.size p r' w' ∧ builtL ++ r = (builtL ++ r').map headOf ∧ newErr (builtL ++ r') = none ∧ Below W.heap.size W w')
theorem numNew (A : Option Addr) (n c : Nat) (l : List Cl) (w w1 : World) (hn : l.length = n) (hC : kCl.C w A n l) (hb : n ≤ 1034834473171) (hb2 : n ≤ 9223372036854775807) (hok : ∀ x ∈ l, clOk x) (A1 : Option Addr) (c1 : Nat) (hBi : Bi w1) (hC1 : kCl.C w1 A1 n (l.map headOf)) :
    Calls Tryd.prog 14 #[.slice A1 n c1] w1 (NumNew A n c w w1) := by
  refine (lawNew2 l n hn hb hok A1 c1 w1 hBi hC1).mono ?_
  rintro e w2 ⟨hB, h⟩
  refine ⟨hB, ?_⟩
  rcases h with ⟨h64, rfl⟩ | ⟨h64, r, hs, ⟨s, x, hne, rfl⟩ | ⟨p, hne, rfl, hS⟩⟩
  · exact .inl ⟨_, _, rfl, fun W hW => refNew_5 hn hC hW hb2 hok h64⟩
  · exact .inl ⟨s, x, rfl, fun W hW => refNew_err hn hC hW hb2 hok h64 hs hne⟩
  · exact .inr ⟨r, p, rfl, hS, fun W hW => refNew_ok hn hC hW hb2 hok h64 hs hne⟩
end
namespace linkNumbers
open Go.ChangeShapes Go.WideShapes Go.ChangeAt Go.RowKit
open Go.ChangeMaps (open_string shut_string)
open Go.Proofs.YtlihpmhnlooapaaDoor Go.Proofs.YtlihpmhnlooapaaDoorW.PrintWords

set_option maxRecDepth 100000 in
set_option maxHeartbeats 16000000 in
theorem walk (A : Option Addr) (l : List Cl) (c : Nat) (s : ByteArray) (w : World) (hBi : Bi w) (_ : l.length ≤ c) (hC : kCl.C w A l.length l) (hg : gCls l) (hs : s.size ≤ 140737488351232) :
    Calls Tryd.prog 6 #[.slice A l.length c, .string s] w fun e w' => e = .returned (.bool true) ∧ Below w.heap.size w w' := by
  obtain ⟨hok, hb, hb2⟩ := gCls_ok hg
  obtain ⟨n, hn⟩ : ∃ n, l.length = n := ⟨_, rfl⟩
  rw [hn] at hb hb2 hC ⊢
  have HC0 := hid hC
  have HBI := hid (fun W (hW : Below w.heap.size w W) => hBi.below hBi.lt (hW.mono (by have := hBi.lt; omega)))
  have HN := hid hn
  have HOK := hid hok
  have HSS := hid hs
  clear hok hn hC hg hBi hs
  go_enter Tryd.func6, Tryd.ntmps6
  go_upto_region 3 with (first
    | (go_at_call 15; refine (headsR A c l n HN.out w HC0.out hb HOK.out).mono ?_; rintro e w1 ⟨A1, c1, rfl, hR1, hC1, hB1⟩; have HR1 := hid hR1; have HC1 := hid hC1; have HB1 := hid hB1; clear hR1 hC1 hB1)
    | (go_at_call 14; refine (numNew A n c l w w1 HN.out HC0.out hb hb2 HOK.out A1 c1 (HBI.out _ HB1.out) HC1.out).mono ?_; rintro e w2 ⟨hB2, hE⟩; have HBX2 := hid hB2; have HB2 := hid (below_weaken HB1.out HB1.out.size hB2); clear hB2; rcases hE with ⟨nm, x, rfl, hRN⟩ | ⟨r, p, rfl, hS, hRN⟩))
  · have HRN := hid (hRN w2 HB2.out)
    have q0 : (nm.toList == nm.toList) = true := by simp
    have q3 : (x != x) = false := by simp
    clear hRN
    go_upto_region 6 with (go_at_call 25; refine HRN.out.mono ?_; rintro e w3 ⟨rfl, hB3⟩; have HB3 := hid (below_weaken HB2.out HB2.out.size hB3); have HBX3 := hid (below_weaken HBX2.out HBX2.out.size hB3); clear hB3)
    have HSP0 := hid (Spo.refl (w1 := w1) HB3.out)
    have HIN0 := hid (show 0 < n → ∃ g, A1 = some ⟨g, 0, none⟩ ∧ Inn w.heap.size w1.heap.size g n l w3 from fun h0 => by
      obtain ⟨g, e1, e2⟩ := Inn.of HR1.out HN.out h0
      exact ⟨g, e1, e2.move (fun k hk => HBX3.out.block k hk)⟩)
    clear HR1 HC1 HB1 HB2 HBX2 HRN HB3 HBX3 q0 q3
    go_wp2
    go_loopw [12] (fun iV wr => ∃ i : Nat, i ≤ n ∧ iV = .int .i64 i ∧ Hid (Spo w w1 w3 wr) ∧ Hid (0 < n → ∃ g, A1 = some ⟨g, 0, none⟩ ∧ Inn w.heap.size w1.heap.size g n l wr)) (fun iV _ => n - (intOf iV).toNat)
    case atStart => exact ⟨0, by omega, rfl, HSP0, HIN0⟩
    obtain ⟨i, hi, rfl, HSP, HIN⟩ := hrel
    by_cases hlt : i < n
    · as_aux_lemma =>
      obtain ⟨g, hA1, hI⟩ := HIN.out (by omega)
      subst hA1
      have HI := hid hI
      obtain ⟨bl, off, hA⟩ := C_plain HC0.out (by omega) (by decide)
      subst hA
      obtain ⟨e, hE, x1, x2, _, _⟩ := el_at2 (Kd.C_below HC0.out HSP.out.below) i hlt
      obtain ⟨cs, hb0, hcs⟩ := hI.blk
      obtain ⟨Af, cf, b, y1, y2, y3, y4, y5⟩ := hcs i hlt
      have hz1 := blk_lt hb0
      rw [← blk_cell hb0, ← hE.n] at y1
      rw [← blk_cell hb0, ← hE.s] at y2
      have li : (i : Int) < n := by omega
      have q1 : (e.n.toList == e.n.toList) = true := by simp
      have q2 : (e.s.toList == e.s.toList) = true := by simp
      have HM := hid (show (l.getD i zCl).faces.length ≤ 8796093022208 by
        have hm : l.getD i zCl ∈ l := getD_mem (by rw [HN.out]; exact hlt)
        have := (HOK.out _ hm).2.2.1
        omega)
      clear hE hb0 hcs y3 y4 y5 hI
      go_wp2_with fail
      go_quiet (fail)
      have HSd := hid (HSP.out.step (pw_below_drewN (Below.refl wr.heap.size wr) nq))
      have HId := hid (HI.out.move (w' := wr.drewN nq) (fun k _ => rfl))
      clear x1 x2 y1 y2 HSP HI HIN
      generalize wr.drewN nq = wd at *
      obtain ⟨cs, hb0, hcs⟩ := HId.out.blk
      obtain ⟨Af, cf, b, y1, y2, y3, y4, y5⟩ := hcs i hlt
      rw [← blk_cell hb0] at y3
      have f3 := blk_frozen hb0 (i * 7 + 3)
      have HS2 := hid (HSd.out.put (j := i * 7 + 3) (v := .bool (!b)) HId.out.lo HId.out.hi)
      have HI2 := hid (HId.out.putB i (!b))
      clear hb0 hcs y1 y2 y4 y5 HSd HId
      go_upto_region 12 with fail
      generalize wd.setCell ⟨g, i * 7 + 3, none⟩ (.bool !b) = ws at *
      generalize hMM : (l.getD i zCl).faces.length = M at HM
      have HMM := hid hMM
      have hM := HM.out
      clear hMM y3 f3
      go_wp2
      go_loopw [13] (fun kV wr => ∃ k : Nat, k ≤ M ∧ kV = .int .i64 k ∧ Hid (Spo w w1 w3 wr) ∧ Hid (Inn w.heap.size w1.heap.size g n l wr)) (fun kV _ => M - (intOf kV).toNat)
      case atStart => exact ⟨0, by omega, rfl, HS2, HI2⟩
      clear HS2 HI2
      obtain ⟨k, hk, rfl, HSk, HIk⟩ := hrel
      obtain ⟨cs, hb0, hcs⟩ := HIk.out.blk
      obtain ⟨Af, cf, b, y1, y2, y3, y4, y5⟩ := hcs i hlt
      rw [← blk_cell hb0, HMM.out] at y4
      rw [HMM.out] at y5
      clear y1 y2 y3 hb0 hcs
      by_cases hkM : k < M
      · obtain ⟨q, hAf, hq1, hq2, hSb⟩ := y5 (by omega)
        subst hAf
        obtain ⟨v0, hv0⟩ := hSb.cell hkM
        have hf0 := hSb.froz k
        have HS3 := hid (HSk.out.put (j := k) (v := .string ⟨#[115, 112, 111, 105, 108, 116]⟩) hq1 hq2)
        have HI3 := hid (HIk.out.putS hSb k (.string ⟨#[115, 112, 111, 105, 108, 116]⟩))
        clear hSb
        go_wp2
        go_roundw
        case rel => exact ⟨k + 1, by omega, by go_num, HS3, HI3⟩
        case measure => simp [intOf]; omega
      · go_wp2
        go_roundw
        case rel => exact ⟨i + 1, by omega, by go_num, HSk, hid (fun _ => ⟨g, rfl, HIk.out⟩)⟩
        case measure => simp [intOf]; omega
    · have HBr := hid HSP.out.below
      go_wp2_with (go_at_call 16; refine (awake_any _ (HBI.out _ HBr.out)).mono ?_; rintro e w4 ⟨rfl, hB4⟩; have HB4 := hid (below_weaken HBr.out HBr.out.size hB4); clear hB4)
      go_ret
      exact ⟨rfl, HB4.out⟩
  · have HRN := hid (hRN w2 HB2.out)
    have HS := hid hS
    clear hRN hS
    have q0 : ((⟨#[]⟩ : ByteArray).toList == (⟨#[]⟩ : ByteArray).toList) = true := by simp
    go_upto_region 6 with (go_at_call 25; refine HRN.out.mono ?_; rintro e w3 ⟨pm, r', rfl, hRS, he, hno, hB3⟩; have HRS := hid hRS; have HE := hid he; have HNO := hid hno; have HS3 := hid (HS.out.step hB3); have HB3 := hid (below_weaken HB2.out HB2.out.size hB3); have HBX3 := hid (below_weaken HBX2.out HBX2.out.size hB3); clear hRS he hno hB3)
    have HSP0 := hid (Spo.refl (w1 := w1) HB3.out)
    have HIN0 := hid (show 0 < n → ∃ g, A1 = some ⟨g, 0, none⟩ ∧ Inn w.heap.size w1.heap.size g n l w3 from fun h0 => by
      obtain ⟨g, e1, e2⟩ := Inn.of HR1.out HN.out h0
      exact ⟨g, e1, e2.move (fun k hk => HBX3.out.block k hk)⟩)
    clear HR1 HC1 HB1 HB2 HRN HB3 HBX3 q0 HS
    go_wp2
    go_loopw [12] (fun iV wr => ∃ i : Nat, i ≤ n ∧ iV = .int .i64 i ∧ Hid (Spo w w1 w3 wr) ∧ Hid (0 < n → ∃ g, A1 = some ⟨g, 0, none⟩ ∧ Inn w.heap.size w1.heap.size g n l wr)) (fun iV _ => n - (intOf iV).toNat)
    case atStart => exact ⟨0, by omega, rfl, HSP0, HIN0⟩
    obtain ⟨i, hi, rfl, HSP, HIN⟩ := hrel
    by_cases hlt : i < n
    · as_aux_lemma =>
      obtain ⟨g, hA1, hI⟩ := HIN.out (by omega)
      subst hA1
      have HI := hid hI
      obtain ⟨bl, off, hA⟩ := C_plain HC0.out (by omega) (by decide)
      subst hA
      obtain ⟨e, hE, x1, x2, _, _⟩ := el_at2 (Kd.C_below HC0.out HSP.out.below) i hlt
      obtain ⟨cs, hb0, hcs⟩ := hI.blk
      obtain ⟨Af, cf, b, y1, y2, y3, y4, y5⟩ := hcs i hlt
      have hz1 := blk_lt hb0
      rw [← blk_cell hb0, ← hE.n] at y1
      rw [← blk_cell hb0, ← hE.s] at y2
      have li : (i : Int) < n := by omega
      have q1 : (e.n.toList == e.n.toList) = true := by simp
      have q2 : (e.s.toList == e.s.toList) = true := by simp
      have HM := hid (show (l.getD i zCl).faces.length ≤ 8796093022208 by
        have hm : l.getD i zCl ∈ l := getD_mem (by rw [HN.out]; exact hlt)
        have := (HOK.out _ hm).2.2.1
        omega)
      clear hE hb0 hcs y3 y4 y5 hI
      go_wp2_with fail
      go_quiet (fail)
      have HSd := hid (HSP.out.step (pw_below_drewN (Below.refl wr.heap.size wr) nq))
      have HId := hid (HI.out.move (w' := wr.drewN nq) (fun k _ => rfl))
      clear x1 x2 y1 y2 HSP HI HIN
      generalize wr.drewN nq = wd at *
      obtain ⟨cs, hb0, hcs⟩ := HId.out.blk
      obtain ⟨Af, cf, b, y1, y2, y3, y4, y5⟩ := hcs i hlt
      rw [← blk_cell hb0] at y3
      have f3 := blk_frozen hb0 (i * 7 + 3)
      have HS2 := hid (HSd.out.put (j := i * 7 + 3) (v := .bool (!b)) HId.out.lo HId.out.hi)
      have HI2 := hid (HId.out.putB i (!b))
      clear hb0 hcs y1 y2 y4 y5 HSd HId
      go_upto_region 12 with fail
      generalize wd.setCell ⟨g, i * 7 + 3, none⟩ (.bool !b) = ws at *
      generalize hMM : (l.getD i zCl).faces.length = M at HM
      have HMM := hid hMM
      have hM := HM.out
      clear hMM y3 f3
      go_wp2
      go_loopw [13] (fun kV wr => ∃ k : Nat, k ≤ M ∧ kV = .int .i64 k ∧ Hid (Spo w w1 w3 wr) ∧ Hid (Inn w.heap.size w1.heap.size g n l wr)) (fun kV _ => M - (intOf kV).toNat)
      case atStart => exact ⟨0, by omega, rfl, HS2, HI2⟩
      clear HS2 HI2
      obtain ⟨k, hk, rfl, HSk, HIk⟩ := hrel
      obtain ⟨cs, hb0, hcs⟩ := HIk.out.blk
      obtain ⟨Af, cf, b, y1, y2, y3, y4, y5⟩ := hcs i hlt
      rw [← blk_cell hb0, HMM.out] at y4
      rw [HMM.out] at y5
      clear y1 y2 y3 hb0 hcs
      by_cases hkM : k < M
      · obtain ⟨q, hAf, hq1, hq2, hSb⟩ := y5 (by omega)
        subst hAf
        obtain ⟨v0, hv0⟩ := hSb.cell hkM
        have hf0 := hSb.froz k
        have HS3 := hid (HSk.out.put (j := k) (v := .string ⟨#[115, 112, 111, 105, 108, 116]⟩) hq1 hq2)
        have HI3 := hid (HIk.out.putS hSb k (.string ⟨#[115, 112, 111, 105, 108, 116]⟩))
        clear hSb
        go_wp2
        go_roundw
        case rel => exact ⟨k + 1, by omega, by go_num, HS3, HI3⟩
        case measure => simp [intOf]; omega
      · go_wp2
        go_roundw
        case rel => exact ⟨i + 1, by omega, by go_num, HSk, hid (fun _ => ⟨g, rfl, HIk.out⟩)⟩
        case measure => simp [intOf]; omega
    · obtain ⟨wb, rfl⟩ : ∃ X, X = wr := ⟨_, rfl⟩
      have HBb := hid HSP.out.below
      obtain ⟨gm, cm, N, S, F, hP, hG⟩ := both_of (HS3.out.move (w' := wb) (fun k h1 h2 => HSP.out.keep k h1 h2)) (HRS.out.move (w' := wb) (fun k h1 h2 => HSP.out.keep k (Nat.le_trans HBX2.out.size h1) h2)) HBb.out HE.out HNO.out
      have HP := hid hP
      have HG := hid hG
      have hNb := HG.out.len.2
      have hp0 : wb.cell? ⟨pm, 0, none⟩ = some (.slice (some ⟨gm, 0, none⟩) N cm) := by have := blk_cell HG.out.mv.blk 0; rw [HG.out.len.1] at this; exact this
      have HCP := hid (fun (W : World) (hW : Below wb.heap.size wb W) => (hW.cell (World.block_lt_of_cell? wb _ hp0)).trans hp0)
      have HLEN := hid (fun (W : World) (hW : Below wb.heap.size wb W) => (show Calls Tryd.prog 18 #[.pointer (some ⟨p, 0, none⟩)] W fun e w' => e = .returned (.int .i64 N) ∧ w' = W from by
        have := len_any (HP.out.st.step hW)
        rw [HP.out.hN] at this
        exact this))
      have HNU := hid (fun (W : World) (hW : Below wb.heap.size wb W) => (show Calls Tryd.prog 30 #[.pointer (some ⟨p, 0, none⟩), .string s] W fun e w' => e = .returned (.tuple #[.int .i64 (numI (builtL ++ r') s), .bool (numOf (builtL ++ r') s).isSome]) ∧ w' = W from by
        have := number_any (HP.out.st.step hW) s (Nat.le_trans HSS.out (by decide))
        rw [HE.out, numI_heads, numOf_heads] at this
        exact this))
      have HGU := hid (fun (W : World) (hW : Below wb.heap.size wb W) => rNumber_any (HG.out.mv.step hW) s)
      have HSC := hid (fun (z : Int) (W : World) (hW : Below wb.heap.size wb W) => sClassZ (HP.out.step hW) HE.out z)
      have HGC := hid (fun (z : Int) (W : World) (hW : Below wb.heap.size wb W) => gClassZ (HG.out.step hW) z)
      have HSN := hid (fun (z : Int) (W : World) (hW : Below wb.heap.size wb W) => sNameZ (HP.out.step hW) HE.out z)
      have HGN := hid (fun (z : Int) (W : World) (hW : Below wb.heap.size wb W) => gNameZ (HG.out.step hW) z)
      have HSU := hid (fun (z : Int) (W : World) (hW : Below wb.heap.size wb W) => sSuperZ (HP.out.step hW) z)
      have HGS := hid (fun (z : Int) (W : World) (hW : Below wb.heap.size wb W) => gSuperZ (HG.out.step hW) z)
      have HSI := hid (fun (z : Int) (W : World) (hW : Below wb.heap.size wb W) => sIfacesZ (HP.out.step hW) z)
      have HGI := hid (fun (z : Int) (W : World) (hW : Below wb.heap.size wb W) => gIfacesZ (HG.out.step hW) z)
      have HSF := hid (fun (z : Int) (W : World) (hW : Below wb.heap.size wb W) => sIsZ (HP.out.step hW) HE.out z)
      have HGF := hid (fun (z : Int) (W : World) (hW : Below wb.heap.size wb W) => gIsZ (HG.out.step hW) z)
      have HIL := hid (show ∀ z, (ifZ N F z).length ≤ 8796093022207 from fun z => by
        unfold ifZ
        split
        · rename_i hz
          exact (HG.out.facesR (show z.toNat < N by omega)).1
        · simp)
      have hz0 := HCP.out wb (Below.refl _ _)
      have HBz := hid (Below.refl wb.heap.size wb)
      have q3 : ((N : Int) != (N : Int)) = false := by simp
      generalize numI (builtL ++ r') s = k0 at *
      generalize (numOf (builtL ++ r') s).isSome = b0 at *
      clear hP hG hp0 HP HG HS3 HRS HNO HSP HIN HBX2
      go_wp2_with fail
      go_quiet ((go_at_call 18; exact Calls.quiet_of_same (HLEN.out _ (pw_below_drewN (Below.refl _ _) _))))
      have HBd := hid (pw_below_drewN (Below.refl wb.heap.size wb) nq)
      clear hz0
      generalize wb.drewN nq = wd at *
      go_upto_region 22 with (first
        | (go_at_call 30; refine (HNU.out _ HBd.out).mono ?_; rintro e w' ⟨rfl, hw⟩; obtain rfl := hw.symm)
        | (go_at_call 31; refine (HGU.out _ HBd.out).mono ?_; rintro e w' ⟨rfl, hw⟩; obtain rfl := hw.symm))
      go_wp2
      go_loopw [18] (fun zV wr => ∃ z : Int, -1 ≤ z ∧ z ≤ (N : Int) + 1 ∧ zV = .int .i64 z ∧ Hid (Below wb.heap.size wb wr)) (fun zV _ => ((N : Int) + 1 - intOf zV).toNat)
      case atStart => exact ⟨-1, by omega, by omega, rfl, HBd⟩
      clear HBd
      obtain ⟨z, hz1, hz2, rfl, HBr⟩ := hrel
      have c0 := HCP.out wr HBr.out
      by_cases hzN : z ≤ (N : Int)
      · as_aux_lemma =>
        have HSCz := hid (HSC.out z)
        have HGCz := hid (HGC.out z)
        have HSNz := hid (HSN.out z)
        have HGNz := hid (HGN.out z)
        have HSUz := hid (HSU.out z)
        have HGSz := hid (HGS.out z)
        have HSIz := hid (HSI.out z)
        have HGIz := hid (HGI.out z)
        have HSFz := hid (HSF.out z)
        have HGFz := hid (HGF.out z)
        have hil := HIL.out z
        clear HSC HGC HSN HGN HSU HGS HSI HGI HSF HGF HIL
        generalize c1Z N (builtL ++ r') z = cn at *
        generalize c2Z N (builtL ++ r') z = cs at *
        generalize c3Z N z = cb at *
        generalize nmZ N (builtL ++ r') z = nz at *
        generalize suZ N S z = sz at *
        generalize ifZ N F z = fz at *
        generalize isZ N (builtL ++ r') z = iz at *
        have p1 : (nz.toList == nz.toList) = true := by simp
        have p2 : (sz != sz) = false := by simp
        have p3 : (iz != iz) = false := by simp
        have p4 : (cb != cb) = false := by simp
        have HEQ := hid (fun (A1 A2 : Option Addr) (c1 c2 : Nat) (W : World) (h1 : kI.C W A1 fz.length fz) (h2 : kI.C W A2 fz.length fz) => (show Calls Tryd.prog 23 #[.slice A1 fz.length c1, .slice A2 fz.length c2] W fun e w' => e = .returned (.bool true) ∧ Below W.heap.size W w' from by
          have := eqIntsL_any A1 A2 c1 c2 fz fz W h1 h2 (by omega) (by omega)
          rw [show (fz == fz) = true by simp] at this
          exact this))
        go_upto_region 26 with (go_at_call 32; refine (HSCz.out _ HBr.out).mono ?_; rintro e w5 ⟨e1, hn1, hs1, rfl, hB5⟩; have HN1 := hid hn1; have HS1 := hid hs1; have HB5 := hid (below_weaken HBr.out HBr.out.size hB5); clear hn1 hs1 hB5)
        have K5 := hid (blk_new w5 (.cells #[.slice e1.p.a e1.p.n e1.p.c, .string e1.n, .string e1.s, .bool e1.b, .slice e1.f.a e1.f.n e1.f.c, .slice e1.l.a e1.l.n e1.l.c, .slice e1.m.a e1.m.n e1.m.c] 41))
        have HB6 := hid (below_alloc HB5.out (.cells #[.slice e1.p.a e1.p.n e1.p.c, .string e1.n, .string e1.s, .bool e1.b, .slice e1.f.a e1.f.n e1.f.c, .slice e1.l.a e1.l.n e1.l.c, .slice e1.m.a e1.m.n e1.m.c] 41))
        clear c0
        generalize w5.alloc (.cells #[.slice e1.p.a e1.p.n e1.p.c, .string e1.n, .string e1.s, .bool e1.b, .slice e1.f.a e1.f.n e1.f.c, .slice e1.l.a e1.l.n e1.l.c, .slice e1.m.a e1.m.n e1.m.c] 41) = w6 at *
        generalize w5.heap.size = b5 at *
        go_upto_region 27 with (go_at_call 33; refine (HGCz.out _ HB6.out).mono ?_; rintro e w7 ⟨e2, hn2, hs2, rfl, hB7⟩; have HN2 := hid hn2; have HS2 := hid hs2; have K7 := hid (blk_below K5.out hB7); have HB7 := hid (below_weaken HB6.out HB6.out.size hB7); clear hn2 hs2 hB7)
        have K8 := hid (blk_new w7 (.cells #[.slice e2.p.a e2.p.n e2.p.c, .string e2.n, .string e2.s, .bool e2.b, .slice e2.f.a e2.f.n e2.f.c, .slice e2.l.a e2.l.n e2.l.c, .slice e2.m.a e2.m.n e2.m.c] 41))
        have J8 := hid (blk_alloc K7.out (.cells #[.slice e2.p.a e2.p.n e2.p.c, .string e2.n, .string e2.s, .bool e2.b, .slice e2.f.a e2.f.n e2.f.c, .slice e2.l.a e2.l.n e2.l.c, .slice e2.m.a e2.m.n e2.m.c] 41))
        have HB8 := hid (below_alloc HB7.out (.cells #[.slice e2.p.a e2.p.n e2.p.c, .string e2.n, .string e2.s, .bool e2.b, .slice e2.f.a e2.f.n e2.f.c, .slice e2.l.a e2.l.n e2.l.c, .slice e2.m.a e2.m.n e2.m.c] 41))
        generalize w7.alloc (.cells #[.slice e2.p.a e2.p.n e2.p.c, .string e2.n, .string e2.s, .bool e2.b, .slice e2.f.a e2.f.n e2.f.c, .slice e2.l.a e2.l.n e2.l.c, .slice e2.m.a e2.m.n e2.m.c] 41) = w8 at *
        generalize w7.heap.size = b7 at *
        have p5 : (e1.n.toList == e2.n.toList) = true := by rw [HN1.out, HN2.out]; simp
        have p6 : (e1.s.toList == e2.s.toList) = true := by rw [HS1.out, HS2.out]; simp
        go_wp2_with (first
          | (go_at_call 22; refine (HSNz.out _ HB8.out).mono ?_; rintro e w' ⟨rfl, hw⟩; obtain rfl := hw.symm)
          | (go_at_call 34; refine (HGNz.out _ HB8.out).mono ?_; rintro e w' ⟨rfl, hw⟩; obtain rfl := hw.symm)
          | (go_at_call 20; refine (HSUz.out _ HB8.out).mono ?_; rintro e w' ⟨rfl, hw⟩; obtain rfl := hw.symm)
          | (go_at_call 35; refine (HGSz.out _ HB8.out).mono ?_; rintro e w9 ⟨rfl, hB9⟩; have HX9 := hid hB9; have HB9 := hid (below_weaken HB8.out HB8.out.size hB9); clear hB9)
          | (go_at_call 19; refine (HSIz.out _ HB9.out).mono ?_; rintro e w10 ⟨A10, c10, rfl, hC10, hB10⟩; have HC10 := hid hC10; have HX10 := hid (below_weaken HX9.out HX9.out.size hB10); have HB10 := hid (below_weaken HB9.out HB9.out.size hB10); clear hC10 hB10)
          | (go_at_call 36; refine (HGIz.out _ HB10.out).mono ?_; rintro e w11 ⟨A11, c11, rfl, hC11, hB11⟩; have HC11 := hid hC11; have HD11 := hid (Kd.C_below HC10.out hB11); have HX11 := hid (below_weaken HX10.out HX10.out.size hB11); have HB11 := hid (below_weaken HB10.out HB10.out.size hB11); clear hC11 hB11)
          | (go_at_call 23; refine (HEQ.out _ _ _ _ _ HD11.out HC11.out).mono ?_; rintro e w12 ⟨rfl, hB12⟩; have HX12 := hid (below_weaken HX11.out HX11.out.size hB12); have HB12 := hid (below_weaken HB11.out HB11.out.size hB12); clear hB12; have x1 := blk_cell (blk_below J8.out HX12.out) 1; have x2 := blk_cell (blk_below J8.out HX12.out) 2; have x3 := blk_cell (blk_below K8.out HX12.out) 1; have x4 := blk_cell (blk_below K8.out HX12.out) 2)
          | (go_at_call 37; refine (HSFz.out _ HB12.out).mono ?_; rintro e w' ⟨rfl, hw⟩; obtain rfl := hw.symm)
          | (go_at_call 38; refine (HGFz.out _ HB12.out).mono ?_; rintro e w' ⟨rfl, hw⟩; obtain rfl := hw.symm))
        go_roundw
        case rel => exact ⟨z + 1, by omega, by omega, by go_num, HB12⟩
        case measure => simp [intOf]; omega
      · have HBT := hid (below_weaken HBb.out HBb.out.size HBr.out)
        have p1 : (k0 == k0) = true := by simp
        have p2 : (b0 == b0) = true := by simp
        go_wp2_with (go_at_call 16; refine (awake_any _ (HBI.out _ HBT.out)).mono ?_; rintro e w13 ⟨rfl, hB13⟩; have HB13 := hid (below_weaken HBT.out HBT.out.size hB13); clear hB13)
        go_ret
        exact ⟨rfl, HB13.out⟩
set_option maxRecDepth 100000 in
theorem lifted (os : Os) (started : os.Started) (H : Type) (enc : TypeId × Value → H) :
    ReturnsInHanded {} Tryd.checked os 6 .any (fun w args => (Rows.linkNumbersSpec.pre enc Tryd.prog Tryd.f6 [] false w args ∧ laidMetH Tryd.prog [("warpbeam/link.builtIn", Rows.laid_warpbeam_link_builtIn)] w) ∧ sizedMet enc Tryd.prog Tryd.f6 (OpenSpec.ofChange Rows.linkNumbersSpec) false w args)
      (Rows.linkNumbersSpec.post enc Tryd.prog Tryd.f6 false true false false) := by
  refine returnsInHanded_of_change_and (C := Tryd.checked) (X := fun w _ => laidMetH Tryd.prog [("warpbeam/link.builtIn", Rows.laid_warpbeam_link_builtIn)] w) (fun _ _ _ hh h => h.of_heap hh) own started (by kernel_rfl) Tryd.func6
    (ChangeSpec.witness_shaped (enc := enc) (C := Tryd.checked) (os := os) (X := fun w _ => laidMetH Tryd.prog [("warpbeam/link.builtIn", Rows.laid_warpbeam_link_builtIn)] w) false (World.doorLaid Tryd.prog 400 os) #[.slice none 0 0, .string ByteArray.empty] 8 rfl (World.shaped_of_RefB (by kernel_rfl) (by kernel_rfl)) (by kernel_rfl) (by kernel_rfl) (by kernel_rfl) (door_met os _)) ?_
  intro W base args ds gs before hval0 hW hcnd hsz0 hL _
  have hval : ∀ (j : Nat) t v, Tryd.f6.params[j]? = some t → args[j]? = some v → Value.okWide Tryd.prog W .any base t v := hval0
  have hsz : (DataW.weightsEach Tryd.prog (Tryd.f6.params.toList ++ Rows.linkNumbersSpec.plain.varTypes Tryd.prog) (ds ++ gs)).all (· ≤ reachBytes) = true := hsz0
  have hW' := hW
  obtain ⟨p, q, hA0, hV, rfl, hfz, hnd⟩ := hW
  have hA : DataW.TrodAll enc Tryd.prog W 0 (fun _ => true) true Tryd.f6.params.toList args.toList ds p := hA0
  rw [Tryd.params6] at hA hval hsz
  obtain ⟨v0, vs0, d0, ds0, p0, q0, hargs, rfl, rfl, h0, r0⟩ := trodAll_cons hA
  obtain ⟨v1, vs1, d1, ds1, p1, q1, rfl, rfl, rfl, h1, r1⟩ := trodAll_cons r0
  obtain ⟨rfl, rfl, rfl⟩ := trodAll_nil r1
  obtain rfl : args = #[v0, v1] := by cases args; simp_all
  obtain ⟨rfl, rfl⟩ := trodVars_none hV
  have y0 := h0
  obtain ⟨A0, l0, c0, rfl, k0, C0, g0⟩ := openCls (hval 0 22 v0 rfl rfl) h0 (Op.weights_of hsz (j := 0) rfl rfl)
  have y1 := h1
  obtain ⟨a1, rfl, rfl, rfl, z1⟩ := open_string Tryd.underlying9 (hval 1 9 v1 rfl rfl) h1
  have w1 : a1.size ≤ 140737488351232 := by
    have z := sized_string hsz (j := 1) (t := 9) rfl rfl
    rw [Array.length_toList] at z
    exact z
  have hS := bi_of_laid hL
  clear hA0 hval0 hsz0 hsz
  refine (walk A0 l0 c0 a1 W hS k0 C0 g0 w1).mono fun e W' ⟨he, bel⟩ => ?_
  subst he
  exact ⟨_, rfl, _, _, _, [], _, [], hW', trodAll_mk1 (shut_bool Tryd.underlying4 _), (trodAll_cons_mk (Below.trod laidOut (by kernel_rfl) (of_decide_eq_true (by kernel_rfl)) y0 bel (Op.trod_places y0)) (trodAll_cons_mk (Below.trod laidOut (by kernel_rfl) (of_decide_eq_true (by kernel_rfl)) y1 bel (Op.trod_places y1)) trodAll_mk0)), rfl, bel.frame _, fun h => by cases h⟩

theorem over : Rows.LinkNumbersSaid :=
  OpenClaim.holds_of_wide 6 Tryd.f6 rfl rfl rfl rfl rfl rfl rfl ⟨rfl, rfl, rfl, rfl, rfl⟩ rfl rfl rfl rfl rfl (by kernel_rfl) Tryd.func6 (by kernel_rfl)
    (of_decide_eq_true (by kernel_rfl)) (by unfold Func.isWrapper; first | (rw [if_pos (by decide +kernel)]; kernel_rfl) | (rw [if_neg (by decide +kernel)]; exact ⟨rfl, rfl⟩))
    (fun os started H enc _ => lifted os started H enc)

end linkNumbers
end Go.Proofs.YtlihpmhnlooapaaDoor
