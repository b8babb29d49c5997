/- The law LinkTurned: the order in which classes are handed in changes nothing. -/
import Derived.Test.YtlihpmhnlooapaaDoorMv
import Derived.Carry
import Derived.ShutString
import Derived.ChangeOld
import Derived.SizedLaws
namespace Go.Proofs.YtlihpmhnlooapaaDoor.linkTurned
open Go.ChangeShapes Go.WideShapes Go.ChangeAt Go.RowKit
open Go.ChangeMaps (open_string shut_string)
open Go.Proofs.YtlihpmhnlooapaaDoor Go.Proofs.YtlihpmhnlooapaaDoorW.PrintWords

theorem els_cells {P : List (El × Cl)} {w W : World} {b off : Nat} (hc : ∀ q u, ((P.map (·.1)).flatMap El.cells)[q]? = some u → w.cell? ⟨b, off + q, none⟩ = some u) (hW : Below w.heap.size w W) (i : Nat) (hi : i < P.length) (e : El) (he : (P.map (·.1)).getD i zEl = e) :
    W.cell? ⟨b, off + i * 7, none⟩ = some (.slice e.p.a e.p.n e.p.c) ∧ W.cell? ⟨b, off + i * 7 + 1, none⟩ = some (.string e.n) ∧ W.cell? ⟨b, off + i * 7 + 2, none⟩ = some (.string e.s) ∧ W.cell? ⟨b, off + i * 7 + 3, none⟩ = some (.bool e.b) ∧ W.cell? ⟨b, off + i * 7 + 4, none⟩ = some (.slice e.f.a e.f.n e.f.c) ∧ W.cell? ⟨b, off + i * 7 + 5, none⟩ = some (.slice e.l.a e.l.n e.l.c) ∧ W.cell? ⟨b, off + i * 7 + 6, none⟩ = some (.slice e.m.a e.m.n e.m.c) := by
  have key : ∀ j u, j < 7 → e.cells[j]? = some u → W.cell? ⟨b, off + i * 7 + j, none⟩ = some u := fun j u hj hu => by
    have h1 := flat_get (P.map (·.1)) [] i j (by simpa using hi) hj
    rw [List.append_nil, he, hu] at h1
    have h2 := hc _ u h1
    have h3 := (hW.cell (World.block_lt_of_cell? w _ h2)).trans h2
    rw [show off + i * 7 + j = off + (i * 7 + j) by omega]
    exact h3
  exact ⟨key 0 _ (by omega) rfl, key 1 _ (by omega) rfl, key 2 _ (by omega) rfl, key 3 _ (by omega) rfl, key 4 _ (by omega) rfl, key 5 _ (by omega) rfl, key 6 _ (by omega) rfl⟩
set_option maxRecDepth 100000 in
set_option maxHeartbeats 8000000 in
theorem walk (A : Option Addr) (l : List Cl) (c : Nat) (w : World) (hBi : Bi w) (_ : l.length ≤ c) (hC : kCl.C w A l.length l) (hg : gCls l) :
    Calls Tryd.prog 4 #[.slice A l.length c] w fun e w' => e = .returned (.bool true) ∧ Below w.heap.size w w' := by
  obtain ⟨hok, hb, _⟩ := gCls_ok hg
  obtain ⟨P, hP, hel, hcells⟩ := els_of hC
  obtain ⟨n, hn⟩ : ∃ n, l.length = n := ⟨_, rfl⟩
  have hPn : P.length = n := by rw [← hn, ← hP, List.length_map]
  rw [hn] at hb hC ⊢
  have HC0 := hid hC
  have HBI := hid (fun W (hW : Below w.heap.size w W) => hBi.below hBi.lt (hW.mono (by have := hBi.lt; omega)))
  have HN := hid hn
  have HOK := hid hok
  have HPN := hid hPn
  have HP := hid hP
  have HEL := hid hel
  have HCE := hid hcells
  have HNM := hid (show ∀ i, i < n → (l.getD i zCl).name = ((P.map (·.1)).getD i zEl).n from fun i hi => by
    have hi2 : i < P.length := by omega
    have h1 := hel P[i] (List.getElem_mem hi2)
    rw [← hP]
    simp only [List.getD, List.getElem?_map, List.getElem?_eq_getElem hi2, Option.map_some, Option.getD_some]
    exact h1.n.symm)
  clear hok hn hC hg hBi hP hel hcells hPn
  go_enter Tryd.func4, Tryd.ntmps4
  go_wp2
  go_loopw [3, 4] (fun bV iV wr => ∃ (z : Int) (j : Nat), z = (j : Int) - 1 ∧ j ≤ n ∧ iV = .int .i64 z ∧ Hid (kEl.R 41 wr w.heap.size (fun _ => True) bV (((P.map (·.1)).drop j).reverse)) ∧ Hid (Below w.heap.size w wr) ∧ Hid (∀ i k, k < i → j ≤ i → i < n → (l.getD i zCl).name ≠ (l.getD k zCl).name)) (fun _ iV _ => (intOf iV + 1).toNat)
  case atStart => exact ⟨(n : Int) - 1, n, rfl, Nat.le_refl _, by go_num, by rw [List.drop_of_length_le (by rw [List.length_map, HPN.out]; omega)]; exact Kd.R_nil _ _ _ _ _, Below.refl _ _, fun i k _ h1 h2 => by omega⟩
  obtain ⟨z, j, hz, hj, rfl, HR, HB, HD⟩ := hrel
  by_cases hj0 : j = 0
  · subst hj0
    obtain rfl : z = -1 := by omega
    have HND := hid (nodup_of_pairs (l := l) (fun i k h1 h2 => HD.out i k h1 (by omega) (by rw [← HN.out]; exact h2)))
    have hrev : ((P.map (·.1)).drop 0).reverse = P.reverse.map (·.1) := by simp
    rw [hrev] at HR
    obtain ⟨A', c', rfl⟩ := Kd.R_slice HR.out
    have hC' := (Kd.R_reads' HR.out).2.2
    have hl' : (P.reverse.map (·.1)).length = n := by rw [List.length_map, List.length_reverse]; exact HPN.out
    rw [hl'] at hC'
    have HCB := hid (show kCl.C wr A' n l.reverse from by
      have := C_of_els hC' (fun z hz => (HEL.out z (List.mem_reverse.1 hz)).below HB.out)
      rw [List.map_reverse, HP.out] at this
      exact this)
    have HCL := hid (Kd.C_below HC0.out HB.out)
    have HOKR := hid (show ∀ x ∈ l.reverse, clOk x from fun x hx => HOK.out x (List.mem_reverse.1 hx))
    clear hrev hC' HR HD hz hj HEL HP HNM HCE
    rw [hl']
    clear hl'
    go_upto_region 12 with (first
      | (go_at_call 15; refine (headsOf A c l n HN.out _ HCL.out hb HOK.out).mono ?_; rintro e w1 ⟨A1, c1, rfl, hC1, hB1⟩; have HC1 := hid hC1; have HBX1 := hid hB1; have HB1 := hid (below_weaken HB.out HB.out.size hB1); clear hC1 hB1)
      | (go_at_call 14; refine (lawNew2 l n HN.out hb HOK.out A1 c1 w1 (HBI.out _ HB1.out) HC1.out).mono ?_; rintro e w2 ⟨hB2, hE⟩; have HBX2 := hid (bel_tr HBX1.out hB2); have HB2 := hid (below_weaken HB1.out HB1.out.size hB2); clear hB2; rcases hE with ⟨h64, rfl⟩ | ⟨h64, r, hs, ⟨s, x, hne, rfl⟩ | ⟨p, hne, rfl, hS⟩⟩))
    · have H64 := hid h64
      clear h64
      have HN2 := hid (fun (A1 : Option Addr) (c1 : Nat) (W : World) (hW : Below w.heap.size w W) (hC : kCl.C W A1 n (l.reverse.map headOf)) => (show Calls Tryd.prog 14 #[.slice A1 n c1] W fun e w' => e = .returned (.tuple #[.pointer none, .string ⟨#[]⟩, .int .i64 5]) ∧ Below W.heap.size W w' from by
        refine (lawNew2 l.reverse n (by rw [List.length_reverse]; exact HN.out) hb HOKR.out A1 c1 W (HBI.out _ hW) hC).mono ?_
        rintro e w' ⟨hB, h⟩
        refine ⟨?_, hB⟩
        exact h.elim (fun h => h.2) (fun h => absurd H64.out h.1)))
      have q0 : ((⟨#[]⟩ : ByteArray).toList == (⟨#[]⟩ : ByteArray).toList) = true := by simp
      go_upto_region 13 with (first
        | (go_at_call 15; refine (headsOf A' c' l.reverse n (by rw [List.length_reverse]; exact HN.out) _ (Kd.C_below HCB.out HBX2.out) hb HOKR.out).mono ?_; rintro e w3 ⟨A3, c3, rfl, hC3, hB3⟩; have HC3 := hid hC3; have HB3 := hid (below_weaken HB2.out HB2.out.size hB3); clear hC3 hB3)
        | (go_at_call 14; refine (HN2.out A3 c3 w3 HB3.out HC3.out).mono ?_; rintro e w4 ⟨rfl, hB4⟩; have HB4 := hid (below_weaken HB3.out HB3.out.size hB4); clear hB4))
      go_wp2_with fail
      go_loopw [12] (fun iV wr => iV = .int .i64 0 ∧ Hid (Below w.heap.size w wr)) (fun _ _ => 0)
      case atStart => exact ⟨rfl, HB4⟩
      obtain ⟨rfl, HBw⟩ := hrel
      go_wp2_with (first | (go_at_call 18; refine (len_nil _).mono ?_; rintro e w' ⟨rfl, hw⟩; obtain rfl := hw.symm) | (go_at_call 16; refine (awake_any _ (HBI.out _ HBw.out)).mono ?_; rintro e w5 ⟨rfl, hB5⟩; have HB5 := hid (below_weaken HBw.out HBw.out.size hB5); clear hB5))
      go_ret
      exact ⟨rfl, HB5.out⟩
    · have H64 := hid h64
      have HNE := hid hne
      have HSR := hid hs
      clear h64 hne hs
      have HN2 := hid (fun (A1 : Option Addr) (c1 : Nat) (W : World) (hW : Below w.heap.size w W) (hC : kCl.C W A1 n (l.reverse.map headOf)) => (show Calls Tryd.prog 14 #[.slice A1 n c1] W fun e w' => e = .returned (.tuple #[.pointer none, .string s, .int .i64 x]) ∧ Below W.heap.size W w' from by
        refine (lawNew2 l.reverse n (by rw [List.length_reverse]; exact HN.out) hb HOKR.out A1 c1 W (HBI.out _ hW) hC).mono ?_
        rintro e w' ⟨hB, h⟩
        refine ⟨?_, hB⟩
        rcases h with ⟨h, _⟩ | ⟨_, r', hs', h⟩
        · exact absurd h H64.out
        · rw [turn_same HND.out HSR.out hs', HNE.out] at h
          rcases h with ⟨s', x', h1, h2⟩ | ⟨p, h1, _⟩
          · cases h1; exact h2
          · cases h1))
      have q0 : (s.toList == s.toList) = true := by simp
      have q1 : (x != x) = false := by simp
      go_upto_region 13 with (first
        | (go_at_call 15; refine (headsOf A' c' l.reverse n (by rw [List.length_reverse]; exact HN.out) _ (Kd.C_below HCB.out HBX2.out) hb HOKR.out).mono ?_; rintro e w3 ⟨A3, c3, rfl, hC3, hB3⟩; have HC3 := hid hC3; have HB3 := hid (below_weaken HB2.out HB2.out.size hB3); clear hC3 hB3)
        | (go_at_call 14; refine (HN2.out A3 c3 w3 HB3.out HC3.out).mono ?_; rintro e w4 ⟨rfl, hB4⟩; have HB4 := hid (below_weaken HB3.out HB3.out.size hB4); clear hB4))
      go_wp2_with fail
      go_loopw [12] (fun iV wr => iV = .int .i64 0 ∧ Hid (Below w.heap.size w wr)) (fun _ _ => 0)
      case atStart => exact ⟨rfl, HB4⟩
      obtain ⟨rfl, HBw⟩ := hrel
      go_wp2_with (first | (go_at_call 18; refine (len_nil _).mono ?_; rintro e w' ⟨rfl, hw⟩; obtain rfl := hw.symm) | (go_at_call 16; refine (awake_any _ (HBI.out _ HBw.out)).mono ?_; rintro e w5 ⟨rfl, hB5⟩; have HB5 := hid (below_weaken HBw.out HBw.out.size hB5); clear hB5))
      go_ret
      exact ⟨rfl, HB5.out⟩
    · have H64 := hid h64
      have HNE := hid hne
      have HSR := hid hs
      have HS := hid hS
      clear h64 hne hs hS
      have HN2 := hid (fun (A1 : Option Addr) (c1 : Nat) (W : World) (hW : Below w.heap.size w W) (hC : kCl.C W A1 n (l.reverse.map headOf)) => (show Calls Tryd.prog 14 #[.slice A1 n c1] W fun e w' => ∃ p2, e = .returned (.tuple #[.pointer (some ⟨p2, 0, none⟩), .string ⟨#[]⟩, .int .i64 0]) ∧ IsSet W.heap.size p2 (builtL ++ r) w' ∧ Below W.heap.size W w' from by
        refine (lawNew2 l.reverse n (by rw [List.length_reverse]; exact HN.out) hb HOKR.out A1 c1 W (HBI.out _ hW) hC).mono ?_
        rintro e w' ⟨hB, h⟩
        rcases h with ⟨h, _⟩ | ⟨_, r', hs', h⟩
        · exact absurd h H64.out
        · rw [turn_same HND.out HSR.out hs', HNE.out] at h
          rcases h with ⟨s', x', h1, h2⟩ | ⟨p2, _, h2, h3⟩
          · cases h1
          · exact ⟨p2, h2, h3, hB⟩))
      have q0 : ((⟨#[]⟩ : ByteArray).toList == (⟨#[]⟩ : ByteArray).toList) = true := by simp
      go_upto_region 13 with (first
        | (go_at_call 15; refine (headsOf A' c' l.reverse n (by rw [List.length_reverse]; exact HN.out) _ (Kd.C_below HCB.out HBX2.out) hb HOKR.out).mono ?_; rintro e w3 ⟨A3, c3, rfl, hC3, hB3⟩; have HC3 := hid hC3; have HBX3 := hid hB3; have HB3 := hid (below_weaken HB2.out HB2.out.size hB3); clear hC3 hB3)
        | (go_at_call 14; refine (HN2.out A3 c3 w3 HB3.out HC3.out).mono ?_; rintro e wz ⟨p2, rfl, hS2, hB4⟩; have HS2 := hid hS2; have HS1 := hid (HS.out.step (bel_tr HBX3.out hB4)); have HB4 := hid (below_weaken HB3.out HB3.out.size hB4); clear hS2 hB4))
      have HSQ := hid (show ∀ q : Nat, q = p ∨ q = p2 → ∃ B, IsSet B q (builtL ++ r) wz from fun q h => by
        rcases h with rfl | rfl
        · exact ⟨_, HS1.out⟩
        · exact ⟨_, HS2.out⟩)
      have hbig := HS1.out.big
      have HLEN := hid (fun W (hW : Below wz.heap.size wz W) => len_any (HS1.out.step hW))
      have hbN := hbig
      generalize hNN : (builtL ++ r).length = N at hbN HLEN
      have HNN := hid hNN
      clear hNN hbig
      have HBz := hid (Below.refl wz.heap.size wz)
      go_wp2_with fail
      go_loopw [12] (fun iV wr => ∃ i : Nat, i ≤ N ∧ iV = .int .i64 i ∧ Hid (Below wz.heap.size wz wr)) (fun iV _ => N - (intOf iV).toNat)
      case atStart => exact ⟨0, by omega, rfl, HBz⟩
      obtain ⟨i, hi, rfl, HBw⟩ := hrel
      have hbw := HBw.out
      by_cases hiN : i < N
      · have hi2 : i < (builtL ++ r).length := by rw [HNN.out]; exact hiN
        have HNA := hid (fun (q : Nat) (W : World) (hq : q = p ∨ q = p2) (hW : Below wz.heap.size wz W) => (show Calls Tryd.prog 22 #[.pointer (some ⟨q, 0, none⟩), .int .i64 i] W fun e w' => e = .returned (.string ((builtL ++ r).getD i zCl).name) ∧ w' = W from by
          obtain ⟨B, h⟩ := HSQ.out q hq
          exact name_in (h.step hW) hi2))
        have HSU := hid (fun (q : Nat) (W : World) (hq : q = p ∨ q = p2) (hW : Below wz.heap.size wz W) => (show Calls Tryd.prog 20 #[.pointer (some ⟨q, 0, none⟩), .int .i64 i] W fun e w' => e = .returned (.int .i64 (supF (supsL (builtL ++ r) (builtL ++ r).length) i)) ∧ w' = W from by
          obtain ⟨B, h⟩ := HSQ.out q hq
          exact super_in (h.step hW) hi2))
        have HAB := hid (fun (q : Nat) (W : World) (hq : q = p ∨ q = p2) (hW : Below wz.heap.size wz W) => (show Calls Tryd.prog 24 #[.pointer (some ⟨q, 0, none⟩), .int .i64 i] W fun e w' => ∃ A c, e = .returned (.slice A (aboveOf (builtL ++ r) i).length c) ∧ kI.C w' A (aboveOf (builtL ++ r) i).length (ints (aboveOf (builtL ++ r) i)) ∧ Below W.heap.size W w' from by
          obtain ⟨B, h⟩ := HSQ.out q hq
          refine (above_in (h.step hW) hi2).mono ?_
          rintro e w' ⟨v, rfl, hR, hB⟩
          obtain ⟨A', c', rfl⟩ := Kd.R_slice hR
          have h3 := (Kd.R_reads' hR).2.2
          rw [ints_len] at h3 ⊢
          exact ⟨A', c', rfl, h3, hB⟩))
        have hlab := (aboveOf_fit HS1.out hi2).len
        rw [HNN.out] at hlab
        generalize ((builtL ++ r).getD i zCl).name = nm at *
        generalize supF (supsL (builtL ++ r) (builtL ++ r).length) i = su at *
        generalize aboveOf (builtL ++ r) i = ab at *
        have HEQ := hid (fun (A1 A2 : Option Addr) (c1 c2 : Nat) (W : World) (h1 : kI.C W A1 ab.length (ints ab)) (h2 : kI.C W A2 ab.length (ints ab)) => (show Calls Tryd.prog 23 #[.slice A1 ab.length c1, .slice A2 ab.length c2] W fun e w' => e = .returned (.bool true) ∧ Below W.heap.size W w' from by
          have hl : (ints ab).length = ab.length := ints_len ab
          rw [← hl] at h1 h2 ⊢
          have := eqInts_any A1 A2 c1 c2 (ints ab) (ints ab) W h1 h2 (by omega) (by omega)
          rw [show (ints ab == ints ab) = true by simp] at this
          exact this))
        have q1 : (nm.toList == nm.toList) = true := by simp
        have q2 : (su != su) = false := by simp
        clear hi2
        go_wp2_with (first
          | (go_at_call 18; refine (HLEN.out _ (by first | exact HBz.out | assumption)).mono ?_; rintro e w' ⟨rfl, hw⟩; obtain rfl := hw.symm)
          | (go_at_call 22; refine (HNA.out _ _ (by first | exact .inl rfl | exact .inr rfl) (by first | exact HBz.out | assumption)).mono ?_; rintro e w' ⟨rfl, hw⟩; obtain rfl := hw.symm)
          | (go_at_call 20; refine (HSU.out _ _ (by first | exact .inl rfl | exact .inr rfl) (by first | exact HBz.out | assumption)).mono ?_; rintro e w' ⟨rfl, hw⟩; obtain rfl := hw.symm)
          | (go_at_call 24; refine (HAB.out _ _ (by first | exact .inl rfl | exact .inr rfl) (by first | exact HBz.out | assumption)).mono ?_; rintro e wa ⟨Aa, ca, rfl, hCa, hBa⟩; have hba := bel_tr (a := wz) (by first | exact HBz.out | assumption) hBa)
          | (go_at_call 23; refine (HEQ.out _ _ _ _ _ (by first | assumption | exact Kd.C_below (by assumption) (by assumption)) (by first | assumption | exact Kd.C_below (by assumption) (by assumption))).mono ?_; rintro e we ⟨rfl, hBe⟩; have hbe := bel_tr (a := wz) (by first | exact HBz.out | assumption) hBe))
        go_roundw
        case rel => exact ⟨i + 1, by omega, by go_num, by assumption⟩
        case measure => simp [intOf]; omega
      · have HBY := hid (bel_tr HB4.out HBw.out)
        go_wp2_with (first
          | (go_at_call 18; refine (HLEN.out _ (by first | exact HBz.out | assumption)).mono ?_; rintro e w' ⟨rfl, hw⟩; obtain rfl := hw.symm)
          | (go_at_call 16; refine (awake_any _ (HBI.out _ HBY.out)).mono ?_; rintro e w5 ⟨rfl, hB5⟩; have HB5 := hid (below_weaken HBY.out HBY.out.size hB5); clear hB5))
        go_ret
        exact ⟨rfl, HB5.out⟩
  · obtain ⟨i, rfl⟩ : ∃ i, j = i + 1 := ⟨j - 1, by omega⟩
    obtain rfl : z = (i : Int) := by omega
    have hin : i < n := by omega
    obtain ⟨e, he⟩ : ∃ e, (P.map (·.1)).getD i zEl = e := ⟨_, rfl⟩
    have HE := hid he
    obtain ⟨b, off, hA⟩ := C_plain HC0.out (by omega) (by decide)
    subst hA
    have hce := HCE.out b off rfl
    obtain ⟨c0, c1, c2, c3, c4, c5, c6⟩ := els_cells hce HB.out i (by rw [HPN.out]; exact hin) e he
    have HDR := hid (show ((P.map (·.1)).drop i).reverse = ((P.map (·.1)).drop (i + 1)).reverse ++ [e] by
      rw [List.drop_eq_getElem_cons (by rw [List.length_map, HPN.out]; exact hin), List.reverse_cons]
      rw [← he]
      simp [List.getD, show i < P.length by rw [HPN.out]; exact hin])
    have HCX := hid hce
    have li : (i : Int) < n := by omega
    have zb := World.block_lt_of_cell? wr _ c1
    clear hz hce he
    go_upto_region 6 with (at_builtin; refine Kd.R_append kEl w.heap.size rfl (.tmp 20) (.tmp 25) 22 41 _ 136 rfl Tryd.underlying22 infoCls rfl (by decide) (by decide) _ (((P.map (·.1)).drop (i + 1)).reverse) e [.slice e.p.a e.p.n e.p.c, .string e.n, .string e.s, .bool e.b, .slice e.f.a e.f.n e.f.c, .slice e.l.a e.l.n e.l.c, .slice e.m.a e.m.n e.m.c] (fun _ => True) (fun _ => False) rfl rfl (kEl_M _ _ _ e) (fun _ h => h.elim) (fun _ _ => trivial) HR.out HB.out HB.out.size (by rw [List.length_reverse, List.length_drop, List.length_map, HPN.out]; omega) ?_; intro v1 w1 hR1 hB1 _ _; have HR1 := hid hR1; have HB1 := hid hB1; clear hR1 hB1)
    clear c0 c1 c2 c3 c4 c5 c6 zb HR HB
    go_wp2
    go_loopw [5] (fun kV ws => ∃ k : Nat, k ≤ i ∧ kV = .int .i64 k ∧ Hid (kEl.R 41 ws w.heap.size (fun _ => True) v1 (((P.map (·.1)).drop (i + 1)).reverse ++ [e])) ∧ Hid (Below w.heap.size w ws) ∧ Hid (∀ k', k' < k → (l.getD i zCl).name ≠ (l.getD k' zCl).name)) (fun kV _ => i - (intOf kV).toNat)
    case atStart => exact ⟨0, by omega, rfl, HR1, HB1, fun k' h => by omega⟩
    obtain ⟨k, hk, rfl, HR2, HB2, HD2⟩ := hrel
    by_cases hki : k < i
    · obtain ⟨e2, he2⟩ : ∃ e2, (P.map (·.1)).getD k zEl = e2 := ⟨_, rfl⟩
      obtain ⟨_, c1, _⟩ := els_cells HCX.out HB2.out i (by rw [HPN.out]; exact hin) e HE.out
      obtain ⟨_, d1, _⟩ := els_cells HCX.out HB2.out k (by rw [HPN.out]; omega) e2 he2
      have lk : (k : Int) < n := by omega
      have HNi := hid (HNM.out i hin)
      have HNk := hid (HNM.out k (by omega))
      rw [HE.out] at HNi
      rw [he2] at HNk
      clear he2
      by_cases hee : e.n = e2.n
      · have q1 : (e.n.toList == e2.n.toList) = true := by simp [hee]
        clear hee
        go_wp2_with fail
        go_quiet (fail)
        have HB3 := hid (pw_below_drewN HB2.out nq)
        go_wp2_with (go_at_call 16; refine (awake_any _ (HBI.out _ HB3.out)).mono ?_; rintro e w4 ⟨rfl, hB4⟩; have HB4 := hid (below_weaken HB3.out HB3.out.size hB4); clear hB4)
        go_ret
        exact ⟨rfl, HB4.out⟩
      · have q1 : (e.n.toList == e2.n.toList) = false := by
          rw [beq_eq_false_iff_ne]
          intro h
          rw [ByteArray.toList_eq, ByteArray.toList_eq] at h
          exact hee (Go.WideShapes.bytes_inj h)
        have HEE := hid hee
        clear hee
        go_wp2_with fail
        go_quiet (fail)
        go_wp2_with fail
        go_roundw
        case rel => exact ⟨k + 1, by omega, by go_num, Kd.R_drewN HR2.out _, pw_below_drewN HB2.out _, fun k' h => by
          by_cases hkk : k' = k
          · rw [hkk, HNi.out, HNk.out]; exact HEE.out
          · exact HD2.out k' (by omega)⟩
        case measure => simp [intOf]; omega
    · obtain rfl : k = i := by omega
      go_wp2
      go_roundw
      case rel => exact ⟨(k : Int) - 1, k, rfl, by omega, by go_num, by rw [HDR.out]; exact HR2, HB2, fun i' k' h1 h2 h3 => by
        by_cases hik : i' = k
        · rw [hik]; exact HD2.out k' (by omega)
        · exact HD.out i' k' h1 (by omega) h3⟩
      case measure => simp [intOf]
set_option maxRecDepth 100000 in
theorem lifted (os : Os) (started : os.Started) (H : Type) (enc : TypeId × Value → H) :
    ReturnsInHanded {} Tryd.checked os 4 .any (fun w args => (Rows.linkTurnedSpec.pre enc Tryd.prog Tryd.f4 [] false w args ∧ laidMetH Tryd.prog [("warpbeam/link.builtIn", Rows.laid_warpbeam_link_builtIn)] w) ∧ sizedMet enc Tryd.prog Tryd.f4 (OpenSpec.ofChange Rows.linkTurnedSpec) false w args)
      (Rows.linkTurnedSpec.post enc Tryd.prog Tryd.f4 false true false false) := by
  refine returnsInHanded_of_change_and (C := Tryd.checked) (X := fun w _ => laidMetH Tryd.prog [("warpbeam/link.builtIn", Rows.laid_warpbeam_link_builtIn)] w) (fun _ _ _ hh h => h.of_heap hh) own started (by kernel_rfl) Tryd.func4
    (ChangeSpec.witness_shaped (enc := enc) (C := Tryd.checked) (os := os) (X := fun w _ => laidMetH Tryd.prog [("warpbeam/link.builtIn", Rows.laid_warpbeam_link_builtIn)] w) false (World.doorLaid Tryd.prog 400 os) #[.slice none 0 0] 8 rfl (World.shaped_of_RefB (by kernel_rfl) (by kernel_rfl)) (by kernel_rfl) (by kernel_rfl) (by kernel_rfl) (door_met os _)) ?_
  intro W base args ds gs before hval0 hW hcnd hsz0 hL _
  have hval : ∀ (j : Nat) t v, Tryd.f4.params[j]? = some t → args[j]? = some v → Value.okWide Tryd.prog W .any base t v := hval0
  have hsz : (DataW.weightsEach Tryd.prog (Tryd.f4.params.toList ++ Rows.linkTurnedSpec.plain.varTypes Tryd.prog) (ds ++ gs)).all (· ≤ reachBytes) = true := hsz0
  have hW' := hW
  obtain ⟨p, q, hA0, hV, rfl, hfz, hnd⟩ := hW
  have hA : DataW.TrodAll enc Tryd.prog W 0 (fun _ => true) true Tryd.f4.params.toList args.toList ds p := hA0
  rw [Tryd.params4] at hA hval hsz
  obtain ⟨v0, vs0, d0, ds0, p0, q0, hargs, rfl, rfl, h0, r0⟩ := trodAll_cons hA
  obtain ⟨rfl, rfl, rfl⟩ := trodAll_nil r0
  obtain rfl : args = #[v0] := by cases args; simp_all
  obtain ⟨rfl, rfl⟩ := trodVars_none hV
  have y0 := h0
  obtain ⟨A0, l0, c0, rfl, k0, C0, g0⟩ := openCls (hval 0 22 v0 rfl rfl) h0 (Op.weights_of hsz (j := 0) rfl rfl)
  have hS := bi_of_laid hL
  clear hA0 hval0 hsz0 hsz
  refine (walk A0 l0 c0 W hS k0 C0 g0).mono fun e W' ⟨he, bel⟩ => ?_
  subst he
  exact ⟨_, rfl, _, _, _, [], _, [], hW', trodAll_mk1 (shut_bool Tryd.underlying4 _), (trodAll_cons_mk (Below.trod laidOut (by kernel_rfl) (of_decide_eq_true (by kernel_rfl)) y0 bel (Op.trod_places y0)) trodAll_mk0), rfl, bel.frame _, fun h => by cases h⟩

theorem over : Rows.LinkTurnedSaid :=
  OpenClaim.holds_of_wide 4 Tryd.f4 rfl rfl rfl rfl rfl rfl rfl ⟨rfl, rfl, rfl, rfl, rfl⟩ rfl rfl rfl rfl rfl (by kernel_rfl) Tryd.func4 (by kernel_rfl)
    (of_decide_eq_true (by kernel_rfl)) (by unfold Func.isWrapper; first | (rw [if_pos (by decide +kernel)]; kernel_rfl) | (rw [if_neg (by decide +kernel)]; exact ⟨rfl, rfl⟩))
    (fun os started H enc _ => lifted os started H enc)

end Go.Proofs.YtlihpmhnlooapaaDoor.linkTurned
