/- Bring, EqInts, the chapter's classes. -/
import Derived.Test.YtlihpmhnlooapaaDoorMm
import Derived.BigQuiet
namespace Go.Proofs.YtlihpmhnlooapaaDoor
open Go.RowKit Go.Proofs.YtlihpmhnlooapaaDoorW.PrintWords Go.Maps Go.WideMaps

theorem C_reps {α : Type} {d : Kd α} {w : World} {g : Nat} {cs : List Value} {t : TypeId} {xs : List α} (hg : w.heap[g]? = some (.cells cs.toArray t (0, 0))) (h : Reps (d.K w) d.sz xs cs) (hn : xs.length ≤ 9223372036854775807) : d.C w (some ⟨g, 0, none⟩) xs.length xs := by
  refine ⟨rfl, hn, fun _ => ⟨_, rfl, fun j p hp => ⟨(cs.drop (j * d.sz)).take d.sz, ?_, h.2 j p hp, fun i u hu => ?_⟩⟩⟩
  · have hj := (List.getElem?_eq_some_iff.1 hp).1
    have : j * d.sz + d.sz ≤ xs.length * d.sz := by rw [← Nat.succ_mul]; exact Nat.mul_le_mul_right _ hj
    rw [List.length_take, List.length_drop, h.1]
    omega
  · rw [add_plain, blk_cell hg]
    rw [List.getElem?_take] at hu
    split at hu
    · rw [List.getElem?_drop] at hu
      simpa using hu
    · cases hu
theorem kCl_mk (w : World) (x : Cl) (A : Option Addr) (c : Nat) (hl : x.faces.length ≤ c) (hC : Kd.C Kd.string w A x.faces.length x.faces) : kCl.K w x [.slice x.pool.a x.pool.n x.pool.c, .string x.name, .string x.super, .bool x.face, .slice A x.faces.length c, .slice x.fields.a x.fields.n x.fields.c, .slice x.methods.a x.methods.n x.methods.c] :=
  ⟨[_], _, rfl, rfl, [_], _, rfl, rfl, [_], _, rfl, rfl, [_], _, rfl, rfl, [_], _, rfl, ⟨A, c, rfl, hl, hC⟩, [_], [_], rfl, rfl, rfl⟩
/-- A class of a literal: no interfaces. -/
theorem kCl_lit0 (w : World) (n s : ByteArray) (f : Bool) : kCl.K w ⟨zSl, n, s, f, [], zSl, zSl⟩ [.slice none 0 0, .string n, .string s, .bool f, .slice none 0 0, .slice none 0 0, .slice none 0 0] :=
  kCl_mk w ⟨zSl, n, s, f, [], zSl, zSl⟩ none 0 (Nat.le_refl _) ⟨rfl, Nat.zero_le _, fun h => absurd h (Nat.lt_irrefl 0)⟩
theorem C_strs {w : World} {g : Nat} {xs : List ByteArray} (hg : w.heap[g]? = some (.cells (xs.map Value.string).toArray 9 (0, 0))) (hn : xs.length ≤ 9223372036854775807) : Kd.C Kd.string w (some ⟨g, 0, none⟩) xs.length xs :=
  C_reps hg (Kd.reps_scalar xs) hn
theorem kCl_litN (w : World) (n s : ByteArray) (f : Bool) (g : Nat) (F : List ByteArray) (hg : w.heap[g]? = some (.cells (F.map Value.string).toArray 9 (0, 0))) (hn : F.length ≤ 9223372036854775807) : kCl.K w ⟨zSl, n, s, f, F, zSl, zSl⟩ [.slice none 0 0, .string n, .string s, .bool f, .slice (some ⟨g, 0, none⟩) F.length F.length, .slice none 0 0, .slice none 0 0] :=
  kCl_mk w ⟨zSl, n, s, f, F, zSl, zSl⟩ (some ⟨g, 0, none⟩) F.length (Nat.le_refl _) (C_strs hg hn)

/-- The chapter's classes. -/
def sJ : ByteArray := ⟨#[74]⟩
def sB : ByteArray := ⟨#[66]⟩
def sA : ByteArray := ⟨#[65]⟩
def sI : ByteArray := ⟨#[73]⟩
def chapL : List Cl := [⟨zSl, sJ, bn 0, true, [sI], zSl, zSl⟩, ⟨zSl, sB, sA, false, [sI], zSl, zSl⟩, ⟨zSl, sA, bn 0, false, [], zSl, zSl⟩, ⟨zSl, sI, bn 0, true, [], zSl, zSl⟩]
abbrev chapCs (b : Nat) : List Value := [.slice none 0 0, .string ⟨#[74]⟩, .string ⟨#[79, 98, 106, 101, 99, 116]⟩, .bool true, .slice (some ⟨b, 0, none⟩) 1 1, .slice none 0 0, .slice none 0 0, .slice none 0 0, .string ⟨#[66]⟩, .string ⟨#[65]⟩, .bool false, .slice (some ⟨b + 1, 0, none⟩) 1 1, .slice none 0 0, .slice none 0 0, .slice none 0 0, .string ⟨#[65]⟩, .string ⟨#[79, 98, 106, 101, 99, 116]⟩, .bool false, .slice none 0 0, .slice none 0 0, .slice none 0 0, .slice none 0 0, .string ⟨#[73]⟩, .string ⟨#[79, 98, 106, 101, 99, 116]⟩, .bool true, .slice none 0 0, .slice none 0 0, .slice none 0 0]
set_option maxRecDepth 100000 in
set_option maxHeartbeats 4000000 in
theorem chapter_any (w : World) : Calls Tryd.prog 44 #[] w fun e w' => ∃ g, e = .returned (.slice (some ⟨g, 0, none⟩) 4 4) ∧ kCl.C w' (some ⟨g, 0, none⟩) 4 chapL ∧ Below w.heap.size w w' := by
  go_enter Tryd.func44, Tryd.ntmps44
  go_wp2
  go_ret
  have k1 := blk_alloc (blk_alloc (blk_new w (.cells #[.string ⟨#[73]⟩] 9)) (.cells #[.string ⟨#[73]⟩] 9)) (.cells (chapCs w.heap.size).toArray 41)
  have k2 := blk_alloc (blk_new (w.alloc (.cells #[.string ⟨#[73]⟩] 9)) (.cells #[.string ⟨#[73]⟩] 9)) (.cells (chapCs w.heap.size).toArray 41)
  have k3 := blk_new ((w.alloc (.cells #[.string ⟨#[73]⟩] 9)).alloc (.cells #[.string ⟨#[73]⟩] 9)) (.cells (chapCs w.heap.size).toArray 41)
  simp only [World.size_alloc] at k2 k3
  refine ⟨_, rfl, C_reps (xs := chapL) (cs := (chapCs w.heap.size)) k3 ⟨rfl, fun j p hp => ?_⟩ (by decide), below_alloc (below_alloc (below_alloc (Below.refl _ _) _) _) _⟩
  match j, hp with
  | 0, hp => cases hp; exact kCl_litN _ sJ (bn 0) true _ [sI] k1 (by decide)
  | 1, hp => cases hp; exact kCl_litN _ sB sA false _ [sI] k2 (by decide)
  | 2, hp => cases hp; exact kCl_lit0 _ sA (bn 0) false
  | 3, hp => cases hp; exact kCl_lit0 _ sI (bn 0) true
  | j + 4, hp => cases hp
/-- A number brought to one below n. -/
def br (i : Int) (n : Nat) : Nat := (if i.tmod n < 0 then i.tmod n + n else i.tmod n).toNat
theorem br_lt (i : Int) {n : Nat} (h0 : 0 < n) : br i n < n := by
  have hr1 : -(n : Int) < i.tmod n := by
    have := Int.lt_tmod_of_pos i (show (0 : Int) < n by omega)
    omega
  have hr2 : i.tmod n < n := Int.tmod_lt_of_pos i (by omega)
  unfold br
  split <;> omega
set_option maxRecDepth 100000 in
set_option maxHeartbeats 4000000 in
theorem bring_any (i : Int) (n : Nat) (h0 : 0 < n) (hn : n ≤ 1000) (w : World) : Calls Tryd.prog 17 #[.int .i64 i, .int .i64 n] w fun e w' => e = .returned (.int .i64 (br i n)) ∧ w' = w := by
  have hr1 : -(n : Int) < i.tmod n := by
    have := Int.lt_tmod_of_pos i (show (0 : Int) < n by omega)
    omega
  have hr2 : i.tmod n < n := Int.tmod_lt_of_pos i (by omega)
  have HBR := hid (show br i n = (if i.tmod n < 0 then i.tmod n + n else i.tmod n).toNat from rfl)
  generalize br i n = r at *
  by_cases hr : i.tmod n < 0
  · have hrr : i.tmod n + n = r := by rw [HBR.out, if_pos hr]; omega
    have hrn : r < n := by omega
    have hq : i.tmod n = (r : Int) - n := by omega
    clear HBR
    go_enter Tryd.func17, Tryd.ntmps17
    go_wp2
    go_ret
    exact ⟨rfl, rfl⟩
  · have hrr : i.tmod n = r := by rw [HBR.out, if_neg hr]; omega
    have hrn : r < n := by omega
    clear HBR
    go_enter Tryd.func17, Tryd.ntmps17
    go_wp2
    go_ret
    exact ⟨rfl, rfl⟩
set_option maxRecDepth 100000 in
set_option maxHeartbeats 4000000 in
theorem eqInts_any (A1 A2 : Option Addr) (c1 c2 : Nat) (xs ys : List Int) (w : World) (h1 : kI.C w A1 xs.length xs) (h2 : kI.C w A2 ys.length ys) (hx : xs.length ≤ 1000000) (hy : ys.length ≤ 1000000) : Calls Tryd.prog 23 #[.slice A1 xs.length c1, .slice A2 ys.length c2] w fun e w' => e = .returned (.bool (xs == ys)) ∧ Below w.heap.size w w' := by
  have H1 := hid h1
  have H2 := hid h2
  obtain ⟨n, hn⟩ : ∃ n, xs.length = n := ⟨_, rfl⟩
  obtain ⟨m, hm⟩ : ∃ m, ys.length = m := ⟨_, rfl⟩
  have HN := hid hn
  have HM := hid hm
  rw [hn] at hx ⊢
  rw [hm] at hy ⊢
  clear h1 h2 hn hm
  by_cases hnm : n = m
  · subst hnm
    go_enter Tryd.func23, Tryd.ntmps23
    go_wp2
    go_loopw [5] (fun iV wr => ∃ k : Nat, k ≤ n ∧ iV = .int .i64 k ∧ Hid (Below w.heap.size w wr) ∧ Hid (∀ j, j < k → xs[j]? = ys[j]?)) (fun iV _ => n - (intOf iV).toNat)
    case atStart => exact ⟨0, by omega, rfl, Below.refl _ _, fun j hj => by omega⟩
    obtain ⟨k, hk, rfl, HB, HD⟩ := hrel
    by_cases hlt : k < n
    · have g1 := Kd.C_below H1.out HB.out
      have g2 := Kd.C_below H2.out HB.out
      obtain ⟨b1, o1, hA1⟩ := C_plain g1 (by rw [HN.out]; omega) (by decide)
      obtain ⟨b2, o2, hA2⟩ := C_plain g2 (by rw [HM.out]; omega) (by decide)
      subst hA1 hA2
      have d1 := C_scalar (h1 := fun _ => rfl) g1 0 k (by rw [HN.out]; exact hlt)
      have d2 := C_scalar (h1 := fun _ => rfl) g2 0 k (by rw [HM.out]; exact hlt)
      have x1 : xs[k]? = some (xs[k]'(by rw [HN.out]; exact hlt)) := List.getElem?_eq_getElem _
      have x2 : ys[k]? = some (ys[k]'(by rw [HM.out]; exact hlt)) := List.getElem?_eq_getElem _
      obtain ⟨u, hu⟩ : ∃ u, xs[k]? = some u := ⟨_, x1⟩
      obtain ⟨v, hv⟩ : ∃ v, ys[k]? = some v := ⟨_, x2⟩
      rw [List.getD_eq_getElem?_getD, hu, Option.getD_some] at d1
      rw [List.getD_eq_getElem?_getD, hv, Option.getD_some] at d2
      have HU := hid hu
      have HV := hid hv
      clear g1 g2 x1 x2 hu hv
      by_cases huv : u = v
      · have HE := hid huv
        have b0 : (u != v) = false := by simp [huv]
        clear huv
        go_wp2_with fail
        go_quiet (fail)
        go_wp2_with fail
        go_roundw
        case rel => exact ⟨k + 1, by omega, by go_num, pw_below_drewN HB.out _, fun j hj => by
          by_cases e : j = k
          · rw [e, HU.out, HV.out, HE.out]
          · exact HD.out j (by omega)⟩
        case measure => simp [intOf]; omega
      · have b0 : (u != v) = true := by simp [huv]
        have HE := hid (show (xs == ys) = false by
          rw [beq_eq_false_iff_ne]
          intro e
          rw [e, HV.out] at HU
          exact huv (Option.some.inj HU.out).symm)
        clear huv
        go_wp2_with fail
        go_quiet (fail)
        go_wp2_with fail
        go_ret
        exact ⟨by rw [HE.out]; rfl, pw_below_drewN HB.out _⟩
    · have HE := hid (show (xs == ys) = true by
        rw [beq_iff_eq]
        apply List.ext_getElem?
        intro j
        by_cases hj : j < n
        · exact HD.out j (by omega)
        · rw [List.getElem?_eq_none (by rw [HN.out]; omega), List.getElem?_eq_none (by rw [HM.out]; omega)])
      go_wp2
      go_ret
      exact ⟨by rw [HE.out]; rfl, HB.out⟩
  · have b1 : ((n : Int) != (m : Int)) = true := by simp; omega
    have HE := hid (show (xs == ys) = false by
      rw [beq_eq_false_iff_ne]
      intro e
      apply hnm
      rw [← HN.out, ← HM.out, e])
    clear hnm
    go_enter Tryd.func23, Tryd.ntmps23
    go_wp2
    go_ret
    exact ⟨by rw [HE.out]; rfl, Below.refl _ _⟩
end Go.Proofs.YtlihpmhnlooapaaDoor
