/- Blocks: lists told apart. -/
import Derived.Test.YthjjkpkohhmgcaaXd
import Derived.Test.YthjjkpkohhmgcaaVo
import Derived.Test.YthjjkpkohhmgcaaRw
namespace Go.Proofs.Ythjjkpkohhmgcaa
open Go.RowKit Go.Proofs.YthjjkpkohhmgcaaW.PrintWords Go.Proofs.Ythjjkpkohhmgcaa.Blk

theorem C_ints {w : World} {g : Nat} {xs : List Int} (hg : w.heap[g]? = some (.cells (xs.map (Value.int .i64)).toArray 3 (0, 0))) (hn : xs.length ≤ 9223372036854775807) : kI.C w (some ⟨g, 0, none⟩) xs.length xs :=
  C_reps (d := kI) hg (Kd.reps_scalar xs) hn
set_option maxRecDepth 100000 in
set_option maxHeartbeats 4000000 in
theorem eqInts_any (A1 A2 : Option Addr) (c1 c2 : Nat) (xs ys : List Int) (w : World) (h1 : kI.C w A1 xs.length xs) (h2 : kI.C w A2 ys.length ys) (hx : xs.length ≤ 1000000) (hy : ys.length ≤ 1000000) : Calls Try.prog 18 #[.slice A1 xs.length c1, .slice A2 ys.length c2] w fun e w' => e = .returned (.bool (xs == ys)) ∧ Below w.heap.size w w' := by
  have H1 := hid h1
  have H2 := hid h2
  obtain ⟨n, hn⟩ : ∃ n, xs.length = n := ⟨_, rfl⟩
  obtain ⟨m, hm⟩ : ∃ m, ys.length = m := ⟨_, rfl⟩
  have HN := hid hn
  have HM := hid hm
  rw [hn] at hx ⊢
  rw [hm] at hy ⊢
  clear h1 h2 hn hm
  by_cases hnm : n = m
  · subst hnm
    go_enter Try.func18, Try.ntmps18
    go_wp2
    go_loopw [5] (fun iV wr => ∃ k : Nat, k ≤ n ∧ iV = .int .i64 k ∧ Hid (Below w.heap.size w wr) ∧ Hid (∀ j, j < k → xs[j]? = ys[j]?)) (fun iV _ => n - (intOf iV).toNat)
    case atStart => exact ⟨0, by omega, rfl, Below.refl _ _, fun j hj => by omega⟩
    obtain ⟨k, hk, rfl, HB, HD⟩ := hrel
    by_cases hlt : k < n
    · have g1 := Kd.C_below H1.out HB.out
      have g2 := Kd.C_below H2.out HB.out
      obtain ⟨b1, o1, hA1⟩ := C_plain g1 (by rw [HN.out]; omega) (by decide)
      obtain ⟨b2, o2, hA2⟩ := C_plain g2 (by rw [HM.out]; omega) (by decide)
      subst hA1 hA2
      have d1 := C_scalar (h1 := fun _ => rfl) g1 0 k (by rw [HN.out]; exact hlt)
      have d2 := C_scalar (h1 := fun _ => rfl) g2 0 k (by rw [HM.out]; exact hlt)
      have x1 : xs[k]? = some (xs[k]'(by rw [HN.out]; exact hlt)) := List.getElem?_eq_getElem _
      have x2 : ys[k]? = some (ys[k]'(by rw [HM.out]; exact hlt)) := List.getElem?_eq_getElem _
      obtain ⟨u, hu⟩ : ∃ u, xs[k]? = some u := ⟨_, x1⟩
      obtain ⟨v, hv⟩ : ∃ v, ys[k]? = some v := ⟨_, x2⟩
      rw [List.getD_eq_getElem?_getD, hu, Option.getD_some] at d1
      rw [List.getD_eq_getElem?_getD, hv, Option.getD_some] at d2
      have HU := hid hu
      have HV := hid hv
      clear g1 g2 x1 x2 hu hv
      by_cases huv : u = v
      · have HE := hid huv
        have b0 : (u != v) = false := by simp [huv]
        clear huv
        go_wp2_with fail
        go_quiet (fail)
        go_wp2_with fail
        go_roundw
        case rel => exact ⟨k + 1, by omega, by go_num, pw_below_drewN HB.out _, fun j hj => by
          by_cases e : j = k
          · rw [e, HU.out, HV.out, HE.out]
          · exact HD.out j (by omega)⟩
        case measure => simp [intOf]; omega
      · have b0 : (u != v) = true := by simp [huv]
        have HE := hid (show (xs == ys) = false by
          rw [beq_eq_false_iff_ne]
          intro e
          rw [e, HV.out] at HU
          exact huv (Option.some.inj HU.out).symm)
        clear huv
        go_wp2_with fail
        go_quiet (fail)
        go_wp2_with fail
        go_ret
        exact ⟨by rw [HE.out]; rfl, pw_below_drewN HB.out _⟩
    · have HE := hid (show (xs == ys) = true by
        rw [beq_iff_eq]
        apply List.ext_getElem?
        intro j
        by_cases hj : j < n
        · exact HD.out j (by omega)
        · rw [List.getElem?_eq_none (by rw [HN.out]; omega), List.getElem?_eq_none (by rw [HM.out]; omega)])
      go_wp2
      go_ret
      exact ⟨by rw [HE.out]; rfl, HB.out⟩
  · have b1 : ((n : Int) != (m : Int)) = true := by simp; omega
    have HE := hid (show (xs == ys) = false by
      rw [beq_eq_false_iff_ne]
      intro e
      apply hnm
      rw [← HN.out, ← HM.out, e])
    clear hnm
    go_enter Try.func18, Try.ntmps18
    go_wp2
    go_ret
    exact ⟨by rw [HE.out]; rfl, Below.refl _ _⟩

end Go.Proofs.Ythjjkpkohhmgcaa
