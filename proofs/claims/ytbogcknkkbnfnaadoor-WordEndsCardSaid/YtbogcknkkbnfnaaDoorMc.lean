/- first: the first class of which something is not so. Printed by mkmc.py. -/
import Derived.Test.YtbogcknkkbnfnaaDoorMb
namespace Go.Proofs.YtbogcknkkbnfnaaDoor
open Go.RowKit Go.Proofs.YtbogcknkkbnfnaaDoorW.PrintWords Go.Maps Go.WideMaps

open Classical in
/-- Does a class stand below itself? -/
noncomputable def ringB (S : List Int) (F : List (List Int)) (i : Nat) : Bool := decide (Rch S F i i)
open Classical in
theorem ringB_of {S : List Int} {F : List (List Int)} {i : Nat} {b : Bool} (h : b = true ↔ Rch S F i i) : (!b) = !ringB S F i := by
  unfold ringB
  cases b with
  | true => rw [decide_eq_true (h.1 rfl)]
  | false => rw [decide_eq_false (fun hr => by have := h.2 hr; cases this)]
def facesP (L : List Cl) (F : List (List Int)) (i : Nat) : Bool := faceFit L (F.getD i [])
noncomputable def ringP (S : List Int) (F : List (List Int)) (i : Nat) : Bool := !ringB S F i
/-- What first answers. -/
def firstNo (L : List Cl) (P : Nat → Bool) : Option ByteArray := ((List.range L.length).find? (fun i => !P i)).map (fun i => (L.getD i zCl).name)
theorem firstNo_some {L : List Cl} {P : Nat → Bool} {k : Nat} (h : ∀ j, j < k → P j = true) (hk : k < L.length) (hp : P k = false) : firstNo L P = some (L.getD k zCl).name := by
  unfold firstNo
  have e : List.range L.length = List.range k ++ (k :: (List.range' (k + 1) (L.length - (k + 1)))) := by
    rw [List.range_eq_range', List.range_eq_range']
    have := (List.range'_append_1 (s := 0) (m := k) (n := L.length - k)).symm
    rw [show k + (L.length - k) = L.length by omega] at this
    rw [this, Nat.zero_add, show L.length - k = (L.length - (k + 1)) + 1 by omega, List.range'_succ]
  rw [e, List.find?_append, List.find?_eq_none.2 (fun j hj => by rw [h j (by simpa using hj)]; decide), List.find?_cons_of_pos (by simp [hp])]
  rfl
theorem firstNo_none {L : List Cl} {P : Nat → Bool} (h : ∀ j, j < L.length → P j = true) : firstNo L P = none := by
  unfold firstNo
  rw [List.find?_eq_none.2 (fun j hj => by rw [h j (by simpa using hj)]; decide)]
  rfl
theorem firstNo_all {L : List Cl} {P : Nat → Bool} (h : firstNo L P = none) : ∀ j, j < L.length → P j = true := by
  unfold firstNo at h
  rw [Option.map_eq_none_iff, List.find?_eq_none] at h
  intro j hj
  have := h j (by simpa using hj)
  simpa using this
/-- What first comes to. -/
def FirstPost (L : List Cl) (P : Nat → Bool) (x : Int) (w : World) (e : Ending) (w' : World) : Prop :=
  Below w.heap.size w w' ∧ match firstNo L P with
    | some s => e = .returned (.tuple #[.string s, .int .i64 x])
    | none => e = .returned (.tuple #[.string ⟨#[]⟩, .int .i64 0])
set_option maxRecDepth 100000 in
set_option maxHeartbeats 4000000 in
theorem noRing_any (p g N cap m gs cs gf cf : Nat) (aV : Value) (L : List Cl) (S : List Int) (F : List (List Int)) (w : World) (hV : SV p g N cap m gs cs gf cf aV L S F w) (q : Nat) (hq : w.heap[q]? = some (.cells #[.pointer (some ⟨p, 0, none⟩)] 25 (0, 0))) (i : Nat) (hi : i < N) :
    Calls Tryd.prog 83 #[.int .i64 i, .pointer (some ⟨q, 0, none⟩)] w fun e w' => e = .returned (.bool (!ringB S F i)) ∧ Below w.heap.size w w' := by
  have HR := hid (ring_any p g N cap m gs cs gf cf aV L S F w hV i hi)
  have c0 := blk_cell hq 0
  clear hV hq
  go_enter Tryd.func83, Tryd.ntmps83
  go_wp2_with (go_at_call 84; refine HR.out.mono ?_; rintro e w' ⟨b, rfl, hB, hb⟩; have HB := hid hB; have Hb := hid (ringB_of hb); clear hB hb)
  go_ret
  exact ⟨by rw [← Hb.out]; rfl, HB.out⟩
set_option maxRecDepth 100000 in
set_option maxHeartbeats 8000000 in
theorem first_up (p g N cap m gs cs gf cf : Nat) (aV : Value) (L : List Cl) (S : List Int) (F : List (List Int)) (w : World) (hV : SV p g N cap m gs cs gf cf aV L S F w) (x : Int) (hok : ∀ y ∈ L, clOk y) :
    Calls Tryd.prog 78 #[.pointer (some ⟨p, 0, none⟩), .func (.func 79) #[.pointer (some ⟨p, 0, none⟩)] #[], .int .i64 x] w (FirstPost L (upFit L S) x w) := by
  have hNb := hV.big
  have c0 := blk_cell hV.blk 0
  have HV := hid hV
  skip
  have HOK := hid hok
  have hLN := hid hV.lenL
  clear hV hok
  go_enter Tryd.func78, Tryd.ntmps78
  go_wp2
  clear c0
  go_loopw [15] (fun iV wr => ∃ k : Nat, k ≤ N ∧ iV = .int .i64 k ∧ Hid (Below w.heap.size w wr) ∧ Hid (∀ j, j < k → (upFit L S) j = true)) (fun iV _ => N - (intOf iV).toNat)
  case atStart => exact ⟨0, by omega, rfl, Below.refl _ _, fun j hj => by omega⟩
  obtain ⟨k, hk, rfl, HB, HD⟩ := hrel
  by_cases hlt : k < N
  · obtain ⟨e, hE, c0, c1, c2, c3, c4, c5, c6⟩ := el_at (HV.out.step HB.out).row k hlt
    have hXL : L.getD k zCl ∈ L := by simp [List.getD, show k < L.length by rw [hLN.out]; exact hlt]
    obtain ⟨ok1, ok2, ok3, ok4⟩ := HOK.out _ hXL
    have zg : g < wr.heap.size := by
      have := World.block_lt_of_cell? wr _ c0
      exact this
    have HNM := hid hE.n
    clear hE hXL ok1 ok2 ok3 ok4
    go_upto_region 4 with fail
    have k8 := blk_new wr (.cells #[.slice e.p.a e.p.n e.p.c, .string e.n, .string e.s, .bool e.b, .slice e.f.a e.f.n e.f.c, .slice e.l.a e.l.n e.l.c, .slice e.m.a e.m.n e.m.c] 57)
    have HB8 := hid (HB.out.alloc HB.out.size (.cells #[.slice e.p.a e.p.n e.p.c, .string e.n, .string e.s, .bool e.b, .slice e.f.a e.f.n e.f.c, .slice e.l.a e.l.n e.l.c, .slice e.m.a e.m.n e.m.c] 57))
    have HV8 := hid ((HV.out.step HB.out).alloc (.cells #[.slice e.p.a e.p.n e.p.c, .string e.n, .string e.s, .bool e.b, .slice e.f.a e.f.n e.f.c, .slice e.l.a e.l.n e.l.c, .slice e.m.a e.m.n e.m.c] 57))
    clear c0 c1 c2 c3 c4 c5 c6 zg HB
    generalize wr.alloc (.cells #[.slice e.p.a e.p.n e.p.c, .string e.n, .string e.s, .bool e.b, .slice e.f.a e.f.n e.f.c, .slice e.l.a e.l.n e.l.c, .slice e.m.a e.m.n e.m.c] 57) = w8 at *
    generalize wr.heap.size = b8 at *
    have HCALL := hid (show Calls Tryd.prog 79 #[.pointer (some ⟨p, 0, none⟩), .int .i64 k] w8 (fun e w' => e = .returned (.bool ((upFit L S) k)) ∧ Below w8.heap.size w8 w') from (upFits_any p g N cap m gs cs gf cf aV L S F w8 HV8.out k hlt).mono (fun e w' h => ⟨h.1, by rw [h.2]; exact Below.refl _ _⟩))
    have K8 := hid k8
    clear k8
    cases hP : (upFit L S) k with
    | true =>
      rw [hP] at HCALL
      have HP := hid hP
      clear hP
      go_wp2_with (go_at_call 79; refine HCALL.out.mono ?_; rintro e w' ⟨rfl, hB⟩; have HBx := hid hB; clear hB)
      go_roundw
      case rel => exact ⟨k + 1, by omega, by go_num, below_weaken HB8.out HB8.out.size HBx.out, fun j hj => by
        by_cases e : j = k
        · rw [e]; exact HP.out
        · exact HD.out j (by omega)⟩
      case measure => simp [intOf]; omega
    | false =>
      rw [hP] at HCALL
      have HP := hid (firstNo_some HD.out (by rw [hLN.out]; exact hlt) hP)
      clear hP
      go_wp2_with (go_at_call 79; refine HCALL.out.mono ?_; rintro e w' ⟨rfl, hB⟩; have HBx := hid hB; clear hB; have c1 := blk_cell (blk_below K8.out HBx.out) 1)
      go_ret2
      refine ⟨below_weaken HB8.out HB8.out.size HBx.out, ?_⟩
      rw [HP.out, ← HNM.out]
      rfl
  · have HP := hid (firstNo_none (L := L) (P := upFit L S) (fun j hj => HD.out j (by rw [hLN.out] at hj; omega)))
    go_wp2
    go_ret2
    refine ⟨HB.out, ?_⟩
    rw [HP.out]
    rfl
set_option maxRecDepth 100000 in
set_option maxHeartbeats 8000000 in
theorem first_faces (p g N cap m gs cs gf cf : Nat) (aV : Value) (L : List Cl) (S : List Int) (F : List (List Int)) (w : World) (hV : SV p g N cap m gs cs gf cf aV L S F w) (x : Int) (hok : ∀ y ∈ L, clOk y) :
    Calls Tryd.prog 78 #[.pointer (some ⟨p, 0, none⟩), .func (.func 81) #[.pointer (some ⟨p, 0, none⟩)] #[], .int .i64 x] w (FirstPost L (facesP L F) x w) := by
  have hNb := hV.big
  have c0 := blk_cell hV.blk 0
  have HV := hid hV
  skip
  have HOK := hid hok
  have hLN := hid hV.lenL
  clear hV hok
  go_enter Tryd.func78, Tryd.ntmps78
  go_wp2
  clear c0
  go_loopw [15] (fun iV wr => ∃ k : Nat, k ≤ N ∧ iV = .int .i64 k ∧ Hid (Below w.heap.size w wr) ∧ Hid (∀ j, j < k → (facesP L F) j = true)) (fun iV _ => N - (intOf iV).toNat)
  case atStart => exact ⟨0, by omega, rfl, Below.refl _ _, fun j hj => by omega⟩
  obtain ⟨k, hk, rfl, HB, HD⟩ := hrel
  by_cases hlt : k < N
  · obtain ⟨e, hE, c0, c1, c2, c3, c4, c5, c6⟩ := el_at (HV.out.step HB.out).row k hlt
    have hXL : L.getD k zCl ∈ L := by simp [List.getD, show k < L.length by rw [hLN.out]; exact hlt]
    obtain ⟨ok1, ok2, ok3, ok4⟩ := HOK.out _ hXL
    have zg : g < wr.heap.size := by
      have := World.block_lt_of_cell? wr _ c0
      exact this
    have HNM := hid hE.n
    clear hE hXL ok1 ok2 ok3 ok4
    go_upto_region 4 with fail
    have k8 := blk_new wr (.cells #[.slice e.p.a e.p.n e.p.c, .string e.n, .string e.s, .bool e.b, .slice e.f.a e.f.n e.f.c, .slice e.l.a e.l.n e.l.c, .slice e.m.a e.m.n e.m.c] 57)
    have HB8 := hid (HB.out.alloc HB.out.size (.cells #[.slice e.p.a e.p.n e.p.c, .string e.n, .string e.s, .bool e.b, .slice e.f.a e.f.n e.f.c, .slice e.l.a e.l.n e.l.c, .slice e.m.a e.m.n e.m.c] 57))
    have HV8 := hid ((HV.out.step HB.out).alloc (.cells #[.slice e.p.a e.p.n e.p.c, .string e.n, .string e.s, .bool e.b, .slice e.f.a e.f.n e.f.c, .slice e.l.a e.l.n e.l.c, .slice e.m.a e.m.n e.m.c] 57))
    clear c0 c1 c2 c3 c4 c5 c6 zg HB
    generalize wr.alloc (.cells #[.slice e.p.a e.p.n e.p.c, .string e.n, .string e.s, .bool e.b, .slice e.f.a e.f.n e.f.c, .slice e.l.a e.l.n e.l.c, .slice e.m.a e.m.n e.m.c] 57) = w8 at *
    generalize wr.heap.size = b8 at *
    have HCALL := hid (show Calls Tryd.prog 81 #[.pointer (some ⟨p, 0, none⟩), .int .i64 k] w8 (fun e w' => e = .returned (.bool ((facesP L F) k)) ∧ Below w8.heap.size w8 w') from (facesFit_any p g N cap m gs cs gf cf aV L S F w8 HV8.out k hlt).mono (fun e w' h => ⟨h.1, by rw [h.2]; exact Below.refl _ _⟩))
    have K8 := hid k8
    clear k8
    cases hP : (facesP L F) k with
    | true =>
      rw [hP] at HCALL
      have HP := hid hP
      clear hP
      go_wp2_with (go_at_call 81; refine HCALL.out.mono ?_; rintro e w' ⟨rfl, hB⟩; have HBx := hid hB; clear hB)
      go_roundw
      case rel => exact ⟨k + 1, by omega, by go_num, below_weaken HB8.out HB8.out.size HBx.out, fun j hj => by
        by_cases e : j = k
        · rw [e]; exact HP.out
        · exact HD.out j (by omega)⟩
      case measure => simp [intOf]; omega
    | false =>
      rw [hP] at HCALL
      have HP := hid (firstNo_some HD.out (by rw [hLN.out]; exact hlt) hP)
      clear hP
      go_wp2_with (go_at_call 81; refine HCALL.out.mono ?_; rintro e w' ⟨rfl, hB⟩; have HBx := hid hB; clear hB; have c1 := blk_cell (blk_below K8.out HBx.out) 1)
      go_ret2
      refine ⟨below_weaken HB8.out HB8.out.size HBx.out, ?_⟩
      rw [HP.out, ← HNM.out]
      rfl
  · have HP := hid (firstNo_none (L := L) (P := facesP L F) (fun j hj => HD.out j (by rw [hLN.out] at hj; omega)))
    go_wp2
    go_ret2
    refine ⟨HB.out, ?_⟩
    rw [HP.out]
    rfl
set_option maxRecDepth 100000 in
set_option maxHeartbeats 8000000 in
theorem first_ring (p g N cap m gs cs gf cf : Nat) (aV : Value) (L : List Cl) (S : List Int) (F : List (List Int)) (w : World) (hV : SV p g N cap m gs cs gf cf aV L S F w) (q : Nat) (hq : w.heap[q]? = some (.cells #[.pointer (some ⟨p, 0, none⟩)] 25 (0, 0))) (x : Int) (hok : ∀ y ∈ L, clOk y) :
    Calls Tryd.prog 78 #[.pointer (some ⟨p, 0, none⟩), .func (.func 83) #[] #[.pointer (some ⟨q, 0, none⟩)], .int .i64 x] w (FirstPost L (ringP S F) x w) := by
  have hNb := hV.big
  have c0 := blk_cell hV.blk 0
  have HV := hid hV
  have HQ := hid hq
  clear hq
  have HOK := hid hok
  have hLN := hid hV.lenL
  clear hV hok
  go_enter Tryd.func78, Tryd.ntmps78
  go_wp2
  clear c0
  go_loopw [15] (fun iV wr => ∃ k : Nat, k ≤ N ∧ iV = .int .i64 k ∧ Hid (Below w.heap.size w wr) ∧ Hid (∀ j, j < k → (ringP S F) j = true)) (fun iV _ => N - (intOf iV).toNat)
  case atStart => exact ⟨0, by omega, rfl, Below.refl _ _, fun j hj => by omega⟩
  obtain ⟨k, hk, rfl, HB, HD⟩ := hrel
  by_cases hlt : k < N
  · obtain ⟨e, hE, c0, c1, c2, c3, c4, c5, c6⟩ := el_at (HV.out.step HB.out).row k hlt
    have hXL : L.getD k zCl ∈ L := by simp [List.getD, show k < L.length by rw [hLN.out]; exact hlt]
    obtain ⟨ok1, ok2, ok3, ok4⟩ := HOK.out _ hXL
    have zg : g < wr.heap.size := by
      have := World.block_lt_of_cell? wr _ c0
      exact this
    have HNM := hid hE.n
    clear hE hXL ok1 ok2 ok3 ok4
    go_upto_region 4 with fail
    have k8 := blk_new wr (.cells #[.slice e.p.a e.p.n e.p.c, .string e.n, .string e.s, .bool e.b, .slice e.f.a e.f.n e.f.c, .slice e.l.a e.l.n e.l.c, .slice e.m.a e.m.n e.m.c] 57)
    have HB8 := hid (HB.out.alloc HB.out.size (.cells #[.slice e.p.a e.p.n e.p.c, .string e.n, .string e.s, .bool e.b, .slice e.f.a e.f.n e.f.c, .slice e.l.a e.l.n e.l.c, .slice e.m.a e.m.n e.m.c] 57))
    have HV8 := hid ((HV.out.step HB.out).alloc (.cells #[.slice e.p.a e.p.n e.p.c, .string e.n, .string e.s, .bool e.b, .slice e.f.a e.f.n e.f.c, .slice e.l.a e.l.n e.l.c, .slice e.m.a e.m.n e.m.c] 57))
    clear c0 c1 c2 c3 c4 c5 c6 zg HB
    generalize wr.alloc (.cells #[.slice e.p.a e.p.n e.p.c, .string e.n, .string e.s, .bool e.b, .slice e.f.a e.f.n e.f.c, .slice e.l.a e.l.n e.l.c, .slice e.m.a e.m.n e.m.c] 57) = w8 at *
    generalize wr.heap.size = b8 at *
    have HCALL := hid (show Calls Tryd.prog 83 #[.int .i64 k, .pointer (some ⟨q, 0, none⟩)] w8 (fun e w' => e = .returned (.bool ((ringP S F) k)) ∧ Below w8.heap.size w8 w') from noRing_any p g N cap m gs cs gf cf aV L S F w8 HV8.out q (blk_below HQ.out HB8.out) k hlt)
    have K8 := hid k8
    clear k8
    cases hP : (ringP S F) k with
    | true =>
      rw [hP] at HCALL
      have HP := hid hP
      clear hP
      go_wp2_with (go_at_call 83; refine HCALL.out.mono ?_; rintro e w' ⟨rfl, hB⟩; have HBx := hid hB; clear hB)
      go_roundw
      case rel => exact ⟨k + 1, by omega, by go_num, below_weaken HB8.out HB8.out.size HBx.out, fun j hj => by
        by_cases e : j = k
        · rw [e]; exact HP.out
        · exact HD.out j (by omega)⟩
      case measure => simp [intOf]; omega
    | false =>
      rw [hP] at HCALL
      have HP := hid (firstNo_some HD.out (by rw [hLN.out]; exact hlt) hP)
      clear hP
      go_wp2_with (go_at_call 83; refine HCALL.out.mono ?_; rintro e w' ⟨rfl, hB⟩; have HBx := hid hB; clear hB; have c1 := blk_cell (blk_below K8.out HBx.out) 1)
      go_ret2
      refine ⟨below_weaken HB8.out HB8.out.size HBx.out, ?_⟩
      rw [HP.out, ← HNM.out]
      rfl
  · have HP := hid (firstNo_none (L := L) (P := ringP S F) (fun j hj => HD.out j (by rw [hLN.out] at hj; omega)))
    go_wp2
    go_ret2
    refine ⟨HB.out, ?_⟩
    rw [HP.out]
    rfl
end Go.Proofs.YtbogcknkkbnfnaaDoor
