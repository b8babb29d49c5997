/- New. -/
import Derived.Test.YtbogcknkkbnfnaaDoorMd
import Derived.Test.YtbogcknkkbnfnaaDoorR3
namespace Go.Proofs.YtbogcknkkbnfnaaDoor
open Go.RowKit Go.Proofs.YtbogcknkkbnfnaaDoorW.PrintWords Go.Maps Go.WideMaps

theorem IsSet.lower {B B' p : Nat} {L : List Cl} {w : World} (h : IsSet B p L w) (hb : B' ≤ B) : IsSet B' p L w := by
  obtain ⟨m, cV, sV, fV, aV, h1, h2, h3, h4, h5, h6, h7, h8⟩ := h.ex
  exact ⟨⟨m, cV, sV, fV, aV, by omega, by omega, h3, Kd.R_lower h4 hb, h5, Kd.R_lower h6 hb, Kd.R_lower h7 hb, Kd.R_lower h8 hb⟩, h.big, h.ok, h.good⟩
/-- What New comes to. -/
def NewPost (l : List Cl) (w : World) (e : Ending) (w' : World) : Prop :=
  Below w.heap.size w w' ∧ if 64 < l.length then e = .returned (.tuple #[.pointer none, .string ⟨#[]⟩, .int .i64 5]) else
    ∃ r, Srtd r l ∧ match newErr (builtL ++ r) with
      | some (s, x) => e = .returned (.tuple #[.pointer none, .string s, .int .i64 x])
      | none => ∃ p, e = .returned (.tuple #[.pointer (some ⟨p, 0, none⟩), .string ⟨#[]⟩, .int .i64 0]) ∧ IsSet w.heap.size p (builtL ++ r) w'
set_option maxRecDepth 100000 in
set_option maxHeartbeats 8000000 in
theorem new_any (A : Option Addr) (c : Nat) (l : List Cl) (w : World) (hBi : Bi w) (hC : kCl.C w A l.length l) (hbig : l.length ≤ 9223372036854775807) (hok : ∀ x ∈ l, clOk x) :
    Calls Tryd.prog 41 #[.slice A l.length c] w (NewPost l w) := by
  by_cases h64 : 64 < l.length
  · have HP := hid (show ∀ e w', Below w.heap.size w w' → e = .returned (.tuple #[.pointer none, .string ⟨#[]⟩, .int .i64 5]) → NewPost l w e w' from fun e w' h1 h2 => ⟨h1, by rw [if_pos h64]; exact h2⟩)
    clear hC hok hBi
    generalize l.length = n at *
    go_enter Tryd.func41, Tryd.ntmps41
    go_wp2
    go_ret3
    exact HP.out _ _ (below_alloc (Below.refl _ _) _) rfl
  · have HH := hid (show ∀ e w', Below w.heap.size w w' → (∃ r, Srtd r l ∧ match newErr (builtL ++ r) with
      | some (s, x) => e = .returned (.tuple #[.pointer none, .string s, .int .i64 x])
      | none => ∃ p, e = .returned (.tuple #[.pointer (some ⟨p, 0, none⟩), .string ⟨#[]⟩, .int .i64 0]) ∧ IsSet w.heap.size p (builtL ++ r) w') → NewPost l w e w' from fun e w' h1 h2 => ⟨h1, by rw [if_neg h64]; exact h2⟩)
    have HC := hid hC
    have HOK := hid hok
    have HBI := hid hBi
    have hl : l.length ≤ 64 := by omega
    clear hC hok hBi h64
    obtain ⟨n, hn⟩ : ∃ n, l.length = n := ⟨_, rfl⟩
    have HN := hid hn
    rw [hn] at hl ⊢
    clear hn
    have hmm : ∀ W : World, (Instr.makeMap 89 none).run Tryd.prog W = .ok (.map (some W.heap.size)) (W.alloc (.map #[] 0)) := fun _ => rfl
    have hx0 := blk_new w (.cells #[.slice A n c] 22)
    have hbb : w.heap.size < (w.alloc (.cells #[.slice A n c] 22)).heap.size := by simp
    have HK0 := hid hx0
    clear hx0 hbb
    go_enter Tryd.func41, Tryd.ntmps41
    go_upto_region 5 with fail
    have HB1 := hid (show Below w.heap.size w (w.alloc (.cells #[.slice A n c] 22)) from below_alloc (Below.refl _ _) _)
    have hz : (w.alloc (.cells #[.slice A n c] 22)).heap.size = w.heap.size + 1 := World.size_alloc _ _
    generalize w.alloc (.cells #[.slice A n c] 22) = w1 at *
    have hN : NSt w1 (w.heap.size + 1 + 1) (w.heap.size + 1) (.slice none 0 0) [] [] ((((w1.alloc (.map #[] 0)).alloc (.cells #[.slice none 0 0, .map (some (w.heap.size + 1)), .slice none 0 0, .slice none 0 0, .slice none 0 0] 92)).alloc (.cells #[.pointer (some ⟨w.heap.size + 1 + 1, 0, none⟩)] 25)).alloc (.cells #[.func (.func 74) #[] #[.pointer (some ⟨w.heap.size + 1 + 1 + 1, 0, none⟩), .pointer (some ⟨w.heap.size, 0, none⟩)], .func (.func 76) #[.pointer (some ⟨w.heap.size + 1 + 1, 0, none⟩)] #[], .func (.func 77) #[] #[.pointer (some ⟨w.heap.size + 1 + 1 + 1, 0, none⟩)], .func (.func 80) #[] #[.pointer (some ⟨w.heap.size + 1 + 1 + 1, 0, none⟩)], .func (.func 82) #[] #[.pointer (some ⟨w.heap.size + 1 + 1 + 1, 0, none⟩)]] 131)) := by
      have m1 := MapAt.made w1
      have z1 : (w1.alloc (.map #[] 0)).heap.size = w.heap.size + 1 + 1 := by rw [World.size_alloc, hz]
      have z2 : ((w1.alloc (.map #[] 0)).alloc (.cells #[.slice none 0 0, .map (some (w.heap.size + 1)), .slice none 0 0, .slice none 0 0, .slice none 0 0] 92)).heap.size = w.heap.size + 1 + 1 + 1 := by rw [World.size_alloc, z1]
      have z3 : (((w1.alloc (.map #[] 0)).alloc (.cells #[.slice none 0 0, .map (some (w.heap.size + 1)), .slice none 0 0, .slice none 0 0, .slice none 0 0] 92)).alloc (.cells #[.pointer (some ⟨w.heap.size + 1 + 1, 0, none⟩)] 25)).heap.size = w.heap.size + 1 + 1 + 1 + 1 := by rw [World.size_alloc, z2]
      have k1 := blk_new (w1.alloc (.map #[] 0)) (.cells #[.slice none 0 0, .map (some (w.heap.size + 1)), .slice none 0 0, .slice none 0 0, .slice none 0 0] 92)
      have k2 := blk_new ((w1.alloc (.map #[] 0)).alloc (.cells #[.slice none 0 0, .map (some (w.heap.size + 1)), .slice none 0 0, .slice none 0 0, .slice none 0 0] 92)) (.cells #[.pointer (some ⟨w.heap.size + 1 + 1, 0, none⟩)] 25)
      have k3 := blk_new (((w1.alloc (.map #[] 0)).alloc (.cells #[.slice none 0 0, .map (some (w.heap.size + 1)), .slice none 0 0, .slice none 0 0, .slice none 0 0] 92)).alloc (.cells #[.pointer (some ⟨w.heap.size + 1 + 1, 0, none⟩)] 25)) (.cells #[.func (.func 74) #[] #[.pointer (some ⟨w.heap.size + 1 + 1 + 1, 0, none⟩), .pointer (some ⟨w.heap.size, 0, none⟩)], .func (.func 76) #[.pointer (some ⟨w.heap.size + 1 + 1, 0, none⟩)] #[], .func (.func 77) #[] #[.pointer (some ⟨w.heap.size + 1 + 1 + 1, 0, none⟩)], .func (.func 80) #[] #[.pointer (some ⟨w.heap.size + 1 + 1 + 1, 0, none⟩)], .func (.func 82) #[] #[.pointer (some ⟨w.heap.size + 1 + 1 + 1, 0, none⟩)]] 131)
      rw [z1] at k1
      rw [z2] at k2
      rw [z3] at k3
      rw [hz] at m1
      refine ⟨(((((Below.refl w1.heap.size w1).alloc (Nat.le_refl _) (.map #[] 0)).alloc (by omega) (.cells #[.slice none 0 0, .map (some (w.heap.size + 1)), .slice none 0 0, .slice none 0 0, .slice none 0 0] 92)).alloc (by omega) (.cells #[.pointer (some ⟨w.heap.size + 1 + 1, 0, none⟩)] 25)).alloc (by omega) (.cells #[.func (.func 74) #[] #[.pointer (some ⟨w.heap.size + 1 + 1 + 1, 0, none⟩), .pointer (some ⟨w.heap.size, 0, none⟩)], .func (.func 76) #[.pointer (some ⟨w.heap.size + 1 + 1, 0, none⟩)] #[], .func (.func 77) #[] #[.pointer (some ⟨w.heap.size + 1 + 1 + 1, 0, none⟩)], .func (.func 80) #[] #[.pointer (some ⟨w.heap.size + 1 + 1 + 1, 0, none⟩)], .func (.func 82) #[] #[.pointer (some ⟨w.heap.size + 1 + 1 + 1, 0, none⟩)]] 131)), blk_alloc (blk_alloc k1 (.cells #[.pointer (some ⟨w.heap.size + 1 + 1, 0, none⟩)] 25)) (.cells #[.func (.func 74) #[] #[.pointer (some ⟨w.heap.size + 1 + 1 + 1, 0, none⟩), .pointer (some ⟨w.heap.size, 0, none⟩)], .func (.func 76) #[.pointer (some ⟨w.heap.size + 1 + 1, 0, none⟩)] #[], .func (.func 77) #[] #[.pointer (some ⟨w.heap.size + 1 + 1 + 1, 0, none⟩)], .func (.func 80) #[] #[.pointer (some ⟨w.heap.size + 1 + 1 + 1, 0, none⟩)], .func (.func 82) #[] #[.pointer (some ⟨w.heap.size + 1 + 1 + 1, 0, none⟩)]] 131), Kd.R_nil _ _ _ _ _, ⟨blk_alloc k2 (.cells #[.func (.func 74) #[] #[.pointer (some ⟨w.heap.size + 1 + 1 + 1, 0, none⟩), .pointer (some ⟨w.heap.size, 0, none⟩)], .func (.func 76) #[.pointer (some ⟨w.heap.size + 1 + 1, 0, none⟩)] #[], .func (.func 77) #[] #[.pointer (some ⟨w.heap.size + 1 + 1 + 1, 0, none⟩)], .func (.func 80) #[] #[.pointer (some ⟨w.heap.size + 1 + 1 + 1, 0, none⟩)], .func (.func 82) #[] #[.pointer (some ⟨w.heap.size + 1 + 1 + 1, 0, none⟩)]] 131), k3⟩, ((m1.below (below_alloc (Below.refl _ _) (.cells #[.slice none 0 0, .map (some (w.heap.size + 1)), .slice none 0 0, .slice none 0 0, .slice none 0 0] 92))).below (below_alloc (Below.refl _ _) (.cells #[.pointer (some ⟨w.heap.size + 1 + 1, 0, none⟩)] 25))).below (below_alloc (Below.refl _ _) (.cells #[.func (.func 74) #[] #[.pointer (some ⟨w.heap.size + 1 + 1 + 1, 0, none⟩), .pointer (some ⟨w.heap.size, 0, none⟩)], .func (.func 76) #[.pointer (some ⟨w.heap.size + 1 + 1, 0, none⟩)] #[], .func (.func 77) #[] #[.pointer (some ⟨w.heap.size + 1 + 1 + 1, 0, none⟩)], .func (.func 80) #[] #[.pointer (some ⟨w.heap.size + 1 + 1 + 1, 0, none⟩)], .func (.func 82) #[] #[.pointer (some ⟨w.heap.size + 1 + 1 + 1, 0, none⟩)]] 131))⟩
    have HNs := hid hN
    clear hN
    generalize (((w1.alloc (.map #[] 0)).alloc (.cells #[.slice none 0 0, .map (some (w.heap.size + 1)), .slice none 0 0, .slice none 0 0, .slice none 0 0] 92)).alloc (.cells #[.pointer (some ⟨w.heap.size + 1 + 1, 0, none⟩)] 25)).alloc (.cells #[.func (.func 74) #[] #[.pointer (some ⟨w.heap.size + 1 + 1 + 1, 0, none⟩), .pointer (some ⟨w.heap.size, 0, none⟩)], .func (.func 76) #[.pointer (some ⟨w.heap.size + 1 + 1, 0, none⟩)] #[], .func (.func 77) #[] #[.pointer (some ⟨w.heap.size + 1 + 1 + 1, 0, none⟩)], .func (.func 80) #[] #[.pointer (some ⟨w.heap.size + 1 + 1 + 1, 0, none⟩)], .func (.func 82) #[] #[.pointer (some ⟨w.heap.size + 1 + 1 + 1, 0, none⟩)]] 131) = w5 at *
    have HC1 := hid (Kd.C_below HC.out HB1.out)
    have HBI1 := hid (HBI.out.below HBI.out.lt (HB1.out.mono (by have := HBI.out.lt; omega)))
    have hp1 : w1.heap.size ≤ w.heap.size + 1 + 1 := by omega
    have hm1 : w1.heap.size ≤ w.heap.size + 1 := by omega
    have hb1 : w.heap.size ≤ w1.heap.size := by omega
    obtain ⟨p, hpp⟩ : ∃ p, w.heap.size + 1 + 1 = p := ⟨_, rfl⟩
    obtain ⟨m, hmm2⟩ : ∃ m, w.heap.size + 1 = m := ⟨_, rfl⟩
    have hp2 : w.heap.size = p - 2 := by omega
    rw [hpp] at hp1 HNs ⊢
    rw [hmm2] at hm1 HNs ⊢
    have HK0' := hid (show w1.heap[p - 2]? = some (.cells #[.slice A l.length c] 22 (0, 0)) by rw [← hp2, HN.out]; exact HK0.out)
    have HB0 := hid hb1
    clear hmm hz hpp hmm2 hb1 HK0 HBI HC hp2
    go_wp2
    go_loopw [24] (fun iV wr => ∃ j : Nat, j ≤ 5 ∧ iV = .int .i64 j ∧ Hid (NewAt w1 p m l j wr)) (fun iV _ => 5 - (intOf iV).toNat)
    case atStart => exact ⟨0, by omega, rfl, HNs⟩
    clear HNs
    obtain ⟨j, hj, rfl, HA⟩ := hrel
    by_cases hj5 : j < 5
    · have hjs : j = 0 ∨ j = 1 ∨ j = 2 ∨ j = 3 ∨ j = 4 := by omega
      rcases hjs with rfl | rfl | rfl | rfl | rfl
      · have hx : wr.cell? ⟨p + 2, 0, none⟩ = some (.func (.func 74) #[] #[.pointer (some ⟨p + 1, 0, none⟩), .pointer (some ⟨p - 2, 0, none⟩)]) := blk_cell HA.out.fix.1.k2 0
        have HS := hid (clo0 w1 wr p m l A c HBI1.out hp1 hm1 HC1.out HK0'.out (by rw [HN.out]; exact hl) HOK.out HA.out)
        go_wp2_with (go_at_call 74; refine HS.out.mono ?_; rintro e w' ⟨hB, s, x, rfl, hP⟩; have HBx := hid hB; clear hB; have HP := hid hP; rcases hP with ⟨hx0, _⟩ | ⟨rfl, rfl, _⟩)
        · go_ret3
          obtain ⟨r, hs, hne⟩ := (HP.out.resolve_right (fun h => hx0 h.1)).2
          exact HH.out _ _ (HB1.out.trans (HBx.out.mono HB0.out)) ⟨r, hs, by rw [hne]; rfl⟩
        · go_roundw
          case rel => exact ⟨1, by omega, by go_num, (HP.out.resolve_left (fun h => h.1 rfl)).2.2⟩
          case measure => simp [intOf]
      · have hx : wr.cell? ⟨p + 2, 1, none⟩ = some (.func (.func 76) #[.pointer (some ⟨p, 0, none⟩)] #[]) := blk_cell HA.out.fix.1.k2 1
        have HS := hid (step1 hp1 (by rw [HN.out]; exact hl) HOK.out HA.out)
        go_wp2_with (go_at_call 76; refine HS.out.mono ?_; rintro e w' ⟨hB, s, x, rfl, hP⟩; have HBx := hid hB; clear hB; have HP := hid hP; rcases hP with ⟨hx0, _⟩ | ⟨rfl, rfl, _⟩)
        · go_ret3
          obtain ⟨r, hs, hne⟩ := (HP.out.resolve_right (fun h => hx0 h.1)).2
          exact HH.out _ _ (HB1.out.trans (HBx.out.mono HB0.out)) ⟨r, hs, by rw [hne]; rfl⟩
        · go_roundw
          case rel => exact ⟨2, by omega, by go_num, (HP.out.resolve_left (fun h => h.1 rfl)).2.2⟩
          case measure => simp [intOf]
      · have hx : wr.cell? ⟨p + 2, 2, none⟩ = some (.func (.func 77) #[] #[.pointer (some ⟨p + 1, 0, none⟩)]) := blk_cell HA.out.fix.1.k2 2
        have HS := hid (clo2 w1 wr p m l (by rw [HN.out]; exact hl) HOK.out HA.out)
        go_wp2_with (go_at_call 77; refine HS.out.mono ?_; rintro e w' ⟨hB, s, x, rfl, hP⟩; have HBx := hid hB; clear hB; have HP := hid hP; rcases hP with ⟨hx0, _⟩ | ⟨rfl, rfl, _⟩)
        · go_ret3
          obtain ⟨r, hs, hne⟩ := (HP.out.resolve_right (fun h => hx0 h.1)).2
          exact HH.out _ _ (HB1.out.trans (HBx.out.mono HB0.out)) ⟨r, hs, by rw [hne]; rfl⟩
        · go_roundw
          case rel => exact ⟨3, by omega, by go_num, (HP.out.resolve_left (fun h => h.1 rfl)).2.2⟩
          case measure => simp [intOf]
      · have hx : wr.cell? ⟨p + 2, 3, none⟩ = some (.func (.func 80) #[] #[.pointer (some ⟨p + 1, 0, none⟩)]) := blk_cell HA.out.fix.1.k2 3
        have HS := hid (clo3 w1 wr p m l (by rw [HN.out]; exact hl) HOK.out HA.out)
        go_wp2_with (go_at_call 80; refine HS.out.mono ?_; rintro e w' ⟨hB, s, x, rfl, hP⟩; have HBx := hid hB; clear hB; have HP := hid hP; rcases hP with ⟨hx0, _⟩ | ⟨rfl, rfl, _⟩)
        · go_ret3
          obtain ⟨r, hs, hne⟩ := (HP.out.resolve_right (fun h => hx0 h.1)).2
          exact HH.out _ _ (HB1.out.trans (HBx.out.mono HB0.out)) ⟨r, hs, by rw [hne]; rfl⟩
        · go_roundw
          case rel => exact ⟨4, by omega, by go_num, (HP.out.resolve_left (fun h => h.1 rfl)).2.2⟩
          case measure => simp [intOf]
      · have hx : wr.cell? ⟨p + 2, 4, none⟩ = some (.func (.func 82) #[] #[.pointer (some ⟨p + 1, 0, none⟩)]) := blk_cell HA.out.fix.1.k2 4
        have HS := hid (clo4 w1 wr p m l (by rw [HN.out]; exact hl) HOK.out HA.out)
        go_wp2_with (go_at_call 82; refine HS.out.mono ?_; rintro e w' ⟨hB, s, x, rfl, hP⟩; have HBx := hid hB; clear hB; have HP := hid hP; rcases hP with ⟨hx0, _⟩ | ⟨rfl, rfl, _⟩)
        · go_ret3
          obtain ⟨r, hs, hne⟩ := (HP.out.resolve_right (fun h => hx0 h.1)).2
          exact HH.out _ _ (HB1.out.trans (HBx.out.mono HB0.out)) ⟨r, hs, by rw [hne]; rfl⟩
        · go_roundw
          case rel => exact ⟨5, by omega, by go_num, (HP.out.resolve_left (fun h => h.1 rfl)).2.2⟩
          case measure => simp [intOf]
    · obtain rfl : j = 5 := by omega
      obtain ⟨r, cV, sV, fV, hs, hd, hjn, h1, h2, h3, hJ⟩ := HA.out
      have hlen := srtd_len hs (by rw [HN.out]; exact hl)
      have hok2 := srtd_ok hs HOK.out
      have hG := goodSet_of hlen.1 (h1 (by decide)) (h2 (by decide)) (h3 (by decide))
      have HNE := hid (show newErr (builtL ++ r) = none by unfold newErr; rw [hd, hjn, h1 (by decide), h2 (by decide), h3 (by decide)])
      have HLI := hid (lists_any w1 p m cV sV fV (builtL ++ r) wr hp1 hJ hlen.1 hlen.2 hok2 hG)
      have hx1 := blk_cell hJ.fix.k1 0
      have HJ := hid hJ
      have HG := hid hG
      have HOK2 := hid hok2
      have HLEN := hid (show 8 ≤ (builtL ++ r).length ∧ (builtL ++ r).length ≤ 72 from ⟨by rw [List.length_append, builtL_len]; omega, hlen.2⟩)
      have HS := hid hs
      clear hd hjn h1 h2 h3 hJ hG hok2 hlen hs HA
      go_wp2_with (go_at_call 85; refine HLI.out.mono ?_; rintro e w' ⟨rfl, aV, hL⟩; have HL := hid hL; clear hL; have hx2 := blk_cell ((HL.out.kp.block (p + 1) (blk_lt HJ.out.fix.k1) (by omega)).trans HJ.out.fix.k1) 0)
      go_ret3
      exact HH.out _ _ (HB1.out.trans (HL.out.below.mono HB0.out)) ⟨r, HS.out, by rw [HNE.out]; exact ⟨p, rfl, (IsSet.of hp1 hm1 HJ.out HL.out HLEN.out HOK2.out HG.out).lower HB0.out⟩⟩
end Go.Proofs.YtbogcknkkbnfnaaDoor
