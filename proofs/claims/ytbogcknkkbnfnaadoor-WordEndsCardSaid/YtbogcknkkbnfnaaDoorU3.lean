/- Texts laid as one: Og Oh Oi. -/
import Derived.Test.YtbogcknkkbnfnaaDoorU1
/- The package word: broken, mayList, known, May. Printed by mkog.py. -/
namespace Go.Proofs.YtbogcknkkbnfnaaDoor
open Go.RowKit Go.Proofs.YtbogcknkkbnfnaaDoorW.PrintWords Go.Maps Go.WideMaps

def kWd : Kd Wd := Kd.iso (Kd.pair (Kd.int .i64) (Kd.pair (Kd.int .i64) Kd.string)) (fun x => (x.k, x.tk, x.tn))
def zWd : Wd := ⟨0, 0, ⟨#[]⟩⟩
theorem kWd_open {w : World} {x : Wd} {cs : List Value} (h : kWd.K w x cs) : cs = [.int .i64 x.k, .int .i64 x.tk, .string x.tn] := by
  obtain ⟨_, _, rfl, rfl, _, _, rfl, rfl, rfl⟩ := h
  rfl
theorem wd_add (b off q : Nat) : (⟨b, off, none⟩ : Addr).add q = ⟨b, off + q, none⟩ := by
  unfold Addr.add
  split
  · rename_i h0
    have e : q = 0 := h0
    rw [e]
    rfl
  · rfl
theorem wd_at {w : World} {b off n : Nat} {l : List Wd} (h : kWd.C w (some ⟨b, off, none⟩) n l) {i : Nat} (hi : i < n) : w.cell? ⟨b, off + i * 3, none⟩ = some (.int .i64 (l.getD i zWd).k) ∧ w.cell? ⟨b, off + i * 3 + 1, none⟩ = some (.int .i64 (l.getD i zWd).tk) ∧ w.cell? ⟨b, off + i * 3 + 2, none⟩ = some (.string (l.getD i zWd).tn) := by
  obtain ⟨hl, _, h3⟩ := h
  obtain ⟨ad, ea, h4⟩ := h3 (by omega)
  cases ea
  have hx : l[i]? = some (l.getD i zWd) := by simp [List.getD, show i < l.length by omega]
  obtain ⟨c, hc, hK, h5⟩ := h4 i _ hx
  obtain rfl := kWd_open hK
  have key : ∀ j u, ([Value.int .i64 (l.getD i zWd).k, .int .i64 (l.getD i zWd).tk, .string (l.getD i zWd).tn] : List Value)[j]? = some u → w.cell? ⟨b, off + i * 3 + j, none⟩ = some u := fun j u hu => by
    have h6 := h5 j u hu
    rw [wd_add] at h6
    rw [show off + i * 3 + j = off + (i * kWd.sz + j) by show off + i * 3 + j = off + (i * 3 + j); omega]
    exact h6
  exact ⟨key 0 _ rfl, key 1 _ rfl, key 2 _ rfl⟩
/-- Is the word at a place half a long? -/
def brokenW (l : List Wd) (i : Nat) : Bool :=
  if (l.getD i zWd).k = 2 then decide (l.length ≤ i + 1 ∨ (l.getD (i + 1) zWd).k ≠ 3)
  else if (l.getD i zWd).k = 3 then decide (i = 0 ∨ (l.getD (i - 1) zWd).k ≠ 2)
  else false
set_option maxRecDepth 100000 in
set_option maxHeartbeats 4000000 in
theorem broken_any (A : Option Addr) (c n : Nat) (l : List Wd) (w : World) (hC : kWd.C w A n l) (hb : n ≤ 5864062014805) (i : Nat) (hi : i < n) : Calls Tryd.prog 108 #[.slice A n c, .int .i64 i] w fun e w' => e = .returned (.bool (brokenW l i)) ∧ w' = w := by
  obtain ⟨b, off, hA⟩ := C_plain hC (by omega) (by decide)
  subst hA
  obtain ⟨c0, _⟩ := wd_at hC hi
  have hl : l.length = n := hC.1
  have li : (i : Int) < n := by omega
  by_cases h2 : (l.getD i zWd).k = 2
  · rw [h2] at c0
    by_cases h3 : n ≤ i + 1
    · have HV := hid (show brokenW l i = true from by unfold brokenW; rw [if_pos h2, decide_eq_true (.inl (by omega))])
      rw [HV.out]
      have hge : (i : Int) + 1 ≥ n := by omega
      clear h2 hC
      go_enter Tryd.func108, Tryd.ntmps108
      go_wp2
      go_ret
      exact ⟨rfl, rfl⟩
    · obtain ⟨d0, _⟩ := wd_at hC (show i + 1 < n by omega)
      have hlt : (i : Int) + 1 < n := by omega
      by_cases h4 : (l.getD (i + 1) zWd).k = 3
      · have HV := hid (show brokenW l i = false from by unfold brokenW; rw [if_pos h2, decide_eq_false (by rw [h4]; omega)])
        rw [HV.out]
        rw [h4] at d0
        have HD := hid (show decide ((n : Int) ≤ (i : Int) + 1) = false from decide_eq_false (by omega))
        clear h2 h4 hC
        go_enter Tryd.func108, Tryd.ntmps108
        go_wp2
        go_ret
        exact ⟨by rw [HD.out]; rfl, rfl⟩
      · have HV := hid (show brokenW l i = true from by unfold brokenW; rw [if_pos h2, decide_eq_true (.inr h4)])
        rw [HV.out]
        generalize (l.getD (i + 1) zWd).k = k at *
        have e1 : (k != 3) = true := by simp [h4]
        clear h2 h4 hC
        go_enter Tryd.func108, Tryd.ntmps108
        go_wp2
        go_ret
        exact ⟨rfl, rfl⟩
  · by_cases h3 : (l.getD i zWd).k = 3
    · rw [h3] at c0
      cases i with
      | zero =>
        have HV := hid (show brokenW l 0 = true from by unfold brokenW; rw [if_neg h2, if_pos h3, decide_eq_true (.inl rfl)])
        rw [HV.out]
        rw [show ((0 : Nat) : Int) = 0 from rfl] at li ⊢
        simp only [Nat.zero_mul, Nat.add_zero] at c0
        clear h2 h3 hC
        go_enter Tryd.func108, Tryd.ntmps108
        go_wp2
        go_ret
        exact ⟨rfl, rfl⟩
      | succ j =>
        obtain ⟨d0, _⟩ := wd_at hC (show j < n by omega)
        have e0 : (((j + 1 : Nat) : Int) == 0) = false := by simp; omega
        by_cases h4 : (l.getD j zWd).k = 2
        · have HV := hid (show brokenW l (j + 1) = false from by unfold brokenW; rw [if_neg h2, if_pos h3, decide_eq_false (by rw [show j + 1 - 1 = j from rfl, h4]; omega)])
          rw [HV.out]
          rw [h4] at d0
          clear h2 h3 h4 hC
          go_enter Tryd.func108, Tryd.ntmps108
          go_wp2
          go_ret
          exact ⟨rfl, rfl⟩
        · have HV := hid (show brokenW l (j + 1) = true from by unfold brokenW; rw [if_neg h2, if_pos h3, decide_eq_true (.inr h4)])
          rw [HV.out]
          generalize (l.getD j zWd).k = k at *
          have e1 : (k != 2) = true := by simp [h4]
          clear h2 h3 h4 hC
          go_enter Tryd.func108, Tryd.ntmps108
          go_wp2
          go_ret
          exact ⟨rfl, rfl⟩
    · have HV := hid (show brokenW l i = false from by unfold brokenW; rw [if_neg h2, if_neg h3])
      rw [HV.out]
      generalize (l.getD i zWd).k = k at *
      have e2 : (k == 2) = false := by simp [h2]
      have e3 : (k == 3) = false := by simp [h3]
      clear h2 h3 hC
      go_enter Tryd.func108, Tryd.ntmps108
      go_wp2
      go_ret
      exact ⟨rfl, rfl⟩
end Go.Proofs.YtbogcknkkbnfnaaDoor

/- The package word: mayList, known, May. -/
namespace Go.Proofs.YtbogcknkkbnfnaaDoor
open Go.RowKit Go.Proofs.YtbogcknkkbnfnaaDoorW.PrintWords Go.Maps Go.WideMaps

def mayListW (L : List Cl) (l : List Wd) : Bool := (List.range l.length).all (fun i => mayW L (l.getD i zWd) && !brokenW l i) && decide (l.length ≤ 255)
def knownW (l : List Wd) : Bool := l.all (fun x => !decide (x.k = 0))
theorem eqB0 (k : Int) : (k == 0) = decide (k = 0) := by rw [Bool.eq_iff_iff]; simp
def szW (l : List Wd) : Prop := ∀ x ∈ l, x.tn.size ≤ 9223372036854775807
theorem wd_mem {l : List Wd} {i : Nat} (hi : i < l.length) : l.getD i zWd ∈ l := by simp [List.getD, hi]
theorem mayListW_no {L : List Cl} {l : List Wd} {i : Nat} (hi : i < l.length) (h : (mayW L (l.getD i zWd) && !brokenW l i) = false) : mayListW L l = false := by
  unfold mayListW
  rw [Bool.and_eq_false_iff]
  left
  rw [List.all_eq_false]
  exact ⟨i, by simpa using hi, by rw [h]; decide⟩
theorem mayListW_all {L : List Cl} {l : List Wd} (h : ∀ i, i < l.length → (mayW L (l.getD i zWd) && !brokenW l i) = true) : mayListW L l = decide (l.length ≤ 255) := by
  unfold mayListW
  rw [List.all_eq_true.2 (fun i hi => h i (by simpa using hi))]
  rfl
set_option maxRecDepth 100000 in
set_option maxHeartbeats 8000000 in
theorem mayList_any {B p : Nat} {L : List Cl} {w : World} (h : IsSet B p L w) (A : Option Addr) (c n : Nat) (l : List Wd) (hC : kWd.C w A n l) (hb : n ≤ 5864062014805) (hs : szW l) : Calls Tryd.prog 106 #[.pointer (some ⟨p, 0, none⟩), .slice A n c] w fun e w' => e = .returned (.bool (mayListW L l)) ∧ Below w.heap.size w w' := by
  have HC := hid hC
  have HN := hid hC.1
  have HS := hid hs
  have HMY := hid (fun (x : Wd) (W : World) (hx : x.tn.size ≤ 9223372036854775807) (hW : Below w.heap.size w W) => may_any (h.step hW) x hx)
  clear h hC hs
  go_enter Tryd.func106, Tryd.ntmps106
  go_wp2
  go_loopw [9] (fun iV wr => ∃ i : Nat, i ≤ n ∧ iV = .int .i64 i ∧ Hid (Below w.heap.size w wr) ∧ Hid (∀ j, j < i → (mayW L (l.getD j zWd) && !brokenW l j) = true)) (fun iV _ => n - (intOf iV).toNat)
  case atStart => exact ⟨0, by omega, rfl, Below.refl _ _, fun j hj => by omega⟩
  obtain ⟨i, hi, rfl, HB, HD⟩ := hrel
  by_cases hlt : i < n
  · have hC2 := Kd.C_below HC.out HB.out
    obtain ⟨b, off, hA⟩ := C_plain HC.out (by omega) (by decide)
    subst hA
    obtain ⟨c0, c1, c2⟩ := wd_at hC2 hlt
    have hil : i < l.length := by rw [HN.out]; exact hlt
    have hsz := HS.out _ (wd_mem hil)
    have HBR := hid (fun (W : World) (hW : Below w.heap.size w W) => broken_any (some ⟨b, off, none⟩) c n l W (Kd.C_below HC.out hW) hb i hlt)
    have HIL := hid hil
    have hbl := World.block_lt_of_cell? wr _ c0
    obtain ⟨m, hm⟩ : ∃ m, mayW L (l.getD i zWd) = m := ⟨_, rfl⟩
    obtain ⟨bk, hbk⟩ : ∃ bk, brokenW l i = bk := ⟨_, rfl⟩
    have HM := hid hm
    have HK := hid hbk
    rw [hbk] at HBR
    have HMX := hid (fun (W : World) (hW : Below w.heap.size w W) => (show Calls Tryd.prog 103 #[.pointer (some ⟨p, 0, none⟩), .agg #[.int .i64 (l.getD i zWd).k, .int .i64 (l.getD i zWd).tk, .string (l.getD i zWd).tn]] W fun e w' => e = .returned (.bool m) ∧ Below W.heap.size W w' from by
      have := HMY.out (l.getD i zWd) W hsz hW
      rw [hm] at this
      exact this))
    clear hC2 hil hm hbk hsz
    generalize (l.getD i zWd).k = k at *
    generalize (l.getD i zWd).tk = tk at *
    generalize (l.getD i zWd).tn = tn at *
    go_upto_region 4 with fail
    have k8 := hid (blk_new wr (.cells #[.int .i64 k, .int .i64 tk, .string tn] 35))
    have HB8 := hid (below_alloc HB.out (.cells #[.int .i64 k, .int .i64 tk, .string tn] 35))
    clear c0 c1 c2 hbl
    generalize wr.alloc (.cells #[.int .i64 k, .int .i64 tk, .string tn] 35) = w8 at *
    generalize wr.heap.size = b8 at *
    have d0 := blk_cell k8.out 0
    have d1 := blk_cell k8.out 1
    have d2 := blk_cell k8.out 2
    cases m with
    | false =>
      have HR := hid (mayListW_no HIL.out (by rw [HM.out]; rfl))
      go_wp2_with (go_at_call 103; refine (HMX.out _ HB8.out).mono ?_; rintro e w' ⟨rfl, hB⟩; have HB9 := hid (below_weaken HB8.out HB8.out.size hB); clear hB)
      go_ret
      exact ⟨by rw [HR.out]; rfl, HB9.out⟩
    | true =>
      cases bk with
      | true =>
        have HR := hid (mayListW_no (L := L) HIL.out (by rw [HK.out]; simp))
        go_wp2_with (first | (go_at_call 103; refine (HMX.out _ HB8.out).mono ?_; rintro e w' ⟨rfl, hB⟩; have HB9 := hid (below_weaken HB8.out HB8.out.size hB); clear hB) | (go_at_call 108; refine (HBR.out _ HB9.out).mono ?_; rintro e w'' ⟨rfl, hw⟩; obtain rfl := hw.symm))
        go_ret
        exact ⟨by rw [HR.out]; rfl, HB9.out⟩
      | false =>
        have HDN := hid (show ∀ j, j < i + 1 → (mayW L (l.getD j zWd) && !brokenW l j) = true from fun j hj => by
          by_cases e : j = i
          · rw [e, HM.out, HK.out]; rfl
          · exact HD.out j (by omega))
        go_wp2_with (first | (go_at_call 103; refine (HMX.out _ HB8.out).mono ?_; rintro e w' ⟨rfl, hB⟩; have HB9 := hid (below_weaken HB8.out HB8.out.size hB); clear hB) | (go_at_call 108; refine (HBR.out _ HB9.out).mono ?_; rintro e w'' ⟨rfl, hw⟩; obtain rfl := hw.symm))
        go_roundw
        case rel => exact ⟨i + 1, by omega, by go_num, HB9, HDN⟩
        case measure => simp [intOf]; omega
  · have HR := hid (show mayListW L l = decide (n ≤ 255) from by rw [mayListW_all (fun j hj => HD.out j (by rw [HN.out] at hj; omega)), HN.out])
    have HI := hid (show decide ((n : Int) ≤ 255) = decide (n ≤ 255) from by rw [Bool.eq_iff_iff]; simp; omega)
    go_wp2
    go_ret
    exact ⟨by rw [HR.out]; first | rfl | (rw [← HI.out]; rfl), HB.out⟩
set_option maxRecDepth 100000 in
set_option maxHeartbeats 4000000 in
theorem known1_any (x : Wd) (w : World) : Calls Tryd.prog 110 #[.agg #[.int .i64 x.k, .int .i64 x.tk, .string x.tn]] w fun e w' => e = .returned (.bool (x.k == 0)) ∧ Below w.heap.size w w' := by
  obtain ⟨k, tk, tn⟩ := x
  have HB := hid (below_alloc (Below.refl w.heap.size w) (.cells #[.int .i64 k, .int .i64 tk, .string tn] 35))
  have k1 := blk_new w (.cells #[.int .i64 k, .int .i64 tk, .string tn] 35)
  go_enter Tryd.func110, Tryd.ntmps110
  go_upto_region 1 with fail
  have c0 := blk_cell k1 0
  clear k1
  generalize w.alloc (.cells #[.int .i64 k, .int .i64 tk, .string tn] 35) = w1 at *
  go_wp2
  go_ret
  exact ⟨rfl, HB.out⟩
set_option maxRecDepth 100000 in
set_option maxHeartbeats 8000000 in
theorem indexKnown_any (A : Option Addr) (c n : Nat) (l : List Wd) (w : World) (hC : kWd.C w A n l) (hb : n ≤ 5864062014805) : Calls Tryd.prog 135 #[.slice A n c, .func (.func 110) #[] #[]] w fun e w' => ∃ z : Int, e = .returned (.int .i64 z) ∧ (decide (0 ≤ z) = !knownW l) ∧ Below w.heap.size w w' := by
  have HC := hid hC
  have HN := hid hC.1
  clear hC
  go_enter Tryd.func135, Tryd.ntmps135
  go_wp2
  go_loopw [8] (fun iV wr => ∃ i : Nat, i ≤ n ∧ iV = .int .i64 i ∧ Hid (Below w.heap.size w wr) ∧ Hid (∀ x ∈ l.take i, (x.k == 0) = false)) (fun iV _ => n - (intOf iV).toNat)
  case atStart => exact ⟨0, by omega, rfl, Below.refl _ _, fun x hx => by simp at hx⟩
  obtain ⟨i, hi, rfl, HB, HD⟩ := hrel
  by_cases hlt : i < n
  · have hC2 := Kd.C_below HC.out HB.out
    obtain ⟨b, off, hA⟩ := C_plain HC.out (by omega) (by decide)
    subst hA
    obtain ⟨c0, c1, c2⟩ := wd_at hC2 hlt
    have hil : i < l.length := by rw [HN.out]; exact hlt
    have HX := hid (show l[i]? = some (l.getD i zWd) by simp [List.getD, hil])
    have HM := hid (wd_mem hil)
    have HK := hid (known1_any (l.getD i zWd) wr)
    clear hC2 hil
    generalize l.getD i zWd = x at *
    cases hk : (x.k == 0) with
    | true =>
      rw [hk] at HK
      have HF := hid (show knownW l = false from by
        unfold knownW
        rw [List.all_eq_false]
        exact ⟨x, HM.out, by rw [← eqB0, hk]; decide⟩)
      clear hk
      go_wp2_with (go_at_call 110; refine HK.out.mono ?_; rintro e w' ⟨rfl, hB⟩; have HB9 := hid (below_weaken HB.out HB.out.size hB); clear hB)
      go_ret
      exact ⟨_, rfl, by rw [HF.out]; simp, HB9.out⟩
    | false =>
      rw [hk] at HK
      have HDN := hid (show ∀ y ∈ l.take (i + 1), (y.k == 0) = false from fun y hy => by
        rw [List.take_add_one, HX.out, List.mem_append] at hy
        rcases hy with hy | hy
        · exact HD.out y hy
        · simp only [Option.toList_some, List.mem_singleton] at hy; rw [hy]; exact hk)
      clear hk
      go_wp2_with (go_at_call 110; refine HK.out.mono ?_; rintro e w' ⟨rfl, hB⟩; have HB9 := hid (below_weaken HB.out HB.out.size hB); clear hB)
      go_roundw
      case rel => exact ⟨i + 1, by omega, by go_num, HB9, HDN⟩
      case measure => simp [intOf]; omega
  · have HF := hid (show knownW l = true from by
      unfold knownW
      rw [List.all_eq_true]
      intro x hx
      have := HD.out x (by rw [List.take_of_length_le (by rw [HN.out]; omega)]; exact hx)
      rw [← eqB0, this]
      rfl)
    go_wp2
    go_ret
    exact ⟨_, rfl, by rw [HF.out]; rfl, HB.out⟩
set_option maxRecDepth 100000 in
set_option maxHeartbeats 4000000 in
theorem known_any (A : Option Addr) (c n : Nat) (l : List Wd) (w : World) (hC : kWd.C w A n l) (hb : n ≤ 5864062014805) : Calls Tryd.prog 55 #[.slice A n c] w fun e w' => e = .returned (.bool (knownW l)) ∧ Below w.heap.size w w' := by
  have HI := hid (indexKnown_any A c n l w hC hb)
  have HC := hid (show Calls Tryd.prog 109 #[.slice A n c, .func (.func 110) #[] #[]] w fun e w' => e = .returned (.bool (!knownW l)) ∧ Below w.heap.size w w' from by
    clear hC
    go_enter Tryd.func109, Tryd.ntmps109
    go_wp2_with (go_at_call 135; refine HI.out.mono ?_; rintro e w' ⟨z, rfl, hz, hB⟩; have HB := hid hB; have HZ := hid hz; clear hB hz)
    go_ret
    exact ⟨by rw [← HZ.out]; rfl, HB.out⟩)
  clear hC HI
  generalize knownW l = v at *
  go_enter Tryd.func55, Tryd.ntmps55
  go_wp2_with (go_at_call 109; refine HC.out.mono ?_; rintro e w' ⟨rfl, hB⟩; have HB := hid hB; clear hB)
  go_ret
  exact ⟨by cases v <;> rfl, HB.out⟩
end Go.Proofs.YtbogcknkkbnfnaaDoor

/- A row of words in one block; a copy of one; May. -/
namespace Go.Proofs.YtbogcknkkbnfnaaDoor
open Go.RowKit Go.Proofs.YtbogcknkkbnfnaaDoorW.PrintWords Go.Maps Go.WideMaps

def Wd.cells (x : Wd) : List Value := [.int .i64 x.k, .int .i64 x.tk, .string x.tn]
theorem wflat_len (d : List Wd) : (d.flatMap Wd.cells).length = d.length * 3 := by
  induction d with
  | nil => rfl
  | cons a d ih => simp only [List.flatMap_cons, List.length_append, ih, List.length_cons, Wd.cells, List.length_nil]; omega
theorem wflat_get (d : List Wd) (tl : List Value) (i j : Nat) (hi : i < d.length) (hj : j < 3) : (d.flatMap Wd.cells ++ tl)[i * 3 + j]? = (d.getD i zWd).cells[j]? := by
  induction d generalizing i with
  | nil => simp at hi
  | cons a d ih =>
    cases i with
    | zero =>
      simp only [List.flatMap_cons, List.append_assoc, Nat.zero_mul, Nat.zero_add, List.getD_cons_zero]
      exact List.getElem?_append_left (by simpa [Wd.cells] using hj)
    | succ i =>
      simp only [List.length_cons, Nat.add_lt_add_iff_right] at hi
      simp only [List.flatMap_cons, List.append_assoc, List.getD_cons_succ]
      rw [List.getElem?_append_right (by simp only [Wd.cells, List.length_cons, List.length_nil]; omega)]
      have e : (i + 1) * 3 + j - a.cells.length = i * 3 + j := by simp only [Wd.cells, List.length_cons, List.length_nil]; omega
      rw [e]
      exact ih i hi
/-- The block g holds the words, and behind them tl. -/
def WRow (g : Nat) (tl : List Value) (d : List Wd) (w : World) : Prop := w.heap[g]? = some (.cells (d.flatMap Wd.cells ++ tl).toArray 35 (0, 0))
theorem WRow.cell {g : Nat} {tl : List Value} {d : List Wd} {w : World} (h : WRow g tl d w) (i j : Nat) (hi : i < d.length) (hj : j < 3) : w.cell? ⟨g, i * 3 + j, none⟩ = (d.getD i zWd).cells[j]? := by
  rw [blk_cell h (i * 3 + j)]
  simp only [List.getElem?_toArray]
  exact wflat_get d tl i j hi hj
theorem WRow.below {g : Nat} {tl : List Value} {d : List Wd} {w w' : World} (h : WRow g tl d w) (hb : Below w.heap.size w w') : WRow g tl d w' := blk_below h hb
theorem wflat_set (d : List Wd) (tl : List Value) (i : Nat) (x : Wd) (hi : i < d.length) :
    ((((d.flatMap Wd.cells ++ tl).set (i * 3) (.int .i64 x.k)).set (i * 3 + 1) (.int .i64 x.tk)).set (i * 3 + 2) (.string x.tn)) = (d.set i x).flatMap Wd.cells ++ tl := by
  induction d generalizing i with
  | nil => simp at hi
  | cons a d ih =>
    cases i with
    | zero => rfl
    | succ i =>
      simp only [List.length_cons, Nat.add_lt_add_iff_right] at hi
      have := ih i hi
      simp only [List.set_cons_succ, List.flatMap_cons]
      rw [List.append_assoc, List.append_assoc, ← this]
      have e3 : (i + 1) * 3 = i * 3 + 3 := by omega
      rw [e3]
      rfl
theorem WRow.put {g : Nat} {tl : List Value} {d : List Wd} {w : World} (h : WRow g tl d w) (i : Nat) (x : Wd) (hi : i < d.length) : WRow g tl (d.set i x) (((w.setCell ⟨g, i * 3, none⟩ (.int .i64 x.k)).setCell ⟨g, i * 3 + 1, none⟩ (.int .i64 x.tk)).setCell ⟨g, i * 3 + 2, none⟩ (.string x.tn)) := by
  unfold WRow
  refine blk_put (blk_put (blk_put h (i * 3) (.int .i64 x.k) rfl) (i * 3 + 1) (.int .i64 x.tk) rfl) (i * 3 + 2) (.string x.tn) ?_
  simp only [List.setIfInBounds_toArray]
  rw [wflat_set d tl i x hi]
theorem WRow.far {g : Nat} {tl : List Value} {d : List Wd} {w : World} (h : WRow g tl d w) {q : Nat} (hq : g ≠ q) (i : Nat) (x : Wd) : WRow g tl d (((w.setCell ⟨q, i * 3, none⟩ (.int .i64 x.k)).setCell ⟨q, i * 3 + 1, none⟩ (.int .i64 x.tk)).setCell ⟨q, i * 3 + 2, none⟩ (.string x.tn)) :=
  blk_far (blk_far (blk_far h hq _) hq _) hq _
theorem kWd_K (w : World) (x : Wd) : kWd.K w x x.cells := ⟨[_], _, rfl, rfl, [_], [_], rfl, rfl, rfl⟩
theorem WRow.C {g : Nat} {tl : List Value} {d : List Wd} {w : World} (h : WRow g tl d w) (hn : d.length ≤ 9223372036854775807) : kWd.C w (some ⟨g, 0, none⟩) d.length d := by
  refine ⟨rfl, hn, fun _ => ⟨_, rfl, fun j p hp => ⟨p.cells, rfl, kWd_K w p, fun i u hu => ?_⟩⟩⟩
  have hj := (List.getElem?_eq_some_iff.1 hp).1
  have hi : i < 3 := (List.getElem?_eq_some_iff.1 hu).1
  rw [wd_add, Nat.zero_add]
  have := h.cell j i hj hi
  rw [List.getD_eq_getElem?_getD, hp, Option.getD_some, hu] at this
  exact this
def mayFrameW (L : List Cl) (l s : List Wd) : Bool := mayListW L l && (mayListW L s && knownW s)
set_option maxRecDepth 100000 in
set_option maxHeartbeats 1000000 in
theorem may_frame {B p : Nat} {L : List Cl} {w : World} (h : IsSet B p L w) (A1 A2 : Option Addr) (n1 n2 c1 c2 : Nat) (l s : List Wd) (h1 : kWd.C w A1 n1 l) (h2 : kWd.C w A2 n2 s) (b1 : n1 ≤ 5864062014805) (b2 : n2 ≤ 5864062014805) (s1 : szW l) (s2 : szW s) :
    Calls Tryd.prog 53 #[.pointer (some ⟨p, 0, none⟩), .agg #[.slice A1 n1 c1, .slice A2 n2 c2]] w fun e w' => e = .returned (.bool (mayFrameW L l s)) ∧ Below w.heap.size w w' := by
  have HB := hid (below_alloc (Below.refl w.heap.size w) (.cells #[.slice A1 n1 c1, .slice A2 n2 c2] 40))
  have k1 := hid (blk_new w (.cells #[.slice A1 n1 c1, .slice A2 n2 c2] 40))
  obtain ⟨m1, hm1⟩ : ∃ x, mayListW L l = x := ⟨_, rfl⟩
  obtain ⟨m2, hm2⟩ : ∃ x, mayListW L s = x := ⟨_, rfl⟩
  obtain ⟨kn, hkn⟩ : ∃ x, knownW s = x := ⟨_, rfl⟩
  have HL := hid (fun (A : Option Addr) (n c : Nat) (v : Bool) (W : World) (hW : Below w.heap.size w W) (q : (A = A1 ∧ n = n1 ∧ c = c1 ∧ v = m1) ∨ (A = A2 ∧ n = n2 ∧ c = c2 ∧ v = m2)) => (show Calls Tryd.prog 106 #[.pointer (some ⟨p, 0, none⟩), .slice A n c] W fun e w' => e = .returned (.bool v) ∧ Below W.heap.size W w' from by
    rcases q with ⟨rfl, rfl, rfl, rfl⟩ | ⟨rfl, rfl, rfl, rfl⟩
    · have := mayList_any (h.step hW) A c n l (Kd.C_below h1 hW) b1 s1
      rw [hm1] at this
      exact this
    · have := mayList_any (h.step hW) A c n s (Kd.C_below h2 hW) b2 s2
      rw [hm2] at this
      exact this))
  have HKN := hid (fun (W : World) (hW : Below w.heap.size w W) => (show Calls Tryd.prog 55 #[.slice A2 n2 c2] W fun e w' => e = .returned (.bool kn) ∧ Below W.heap.size W w' from by
    have := known_any A2 c2 n2 s W (Kd.C_below h2 hW) b2
    rw [hkn] at this
    exact this))
  have HV := hid (show mayFrameW L l s = (m1 && (m2 && kn)) from by unfold mayFrameW; rw [hm1, hm2, hkn])
  rw [HV.out]
  clear h h1 h2 s1 s2 hm1 hm2 hkn
  cases m1 <;> cases m2 <;> cases kn <;>
  · go_enter Tryd.func53, Tryd.ntmps53
    go_upto_region 1 with fail
    have d0 := blk_cell k1.out 0
    have d1 := blk_cell k1.out 1
    generalize w.alloc (.cells #[.slice A1 n1 c1, .slice A2 n2 c2] 40) = w1 at *
    have HX0 := hid (Below.refl w1.heap.size w1)
    go_wp2_with (first
      | (go_at_call 106; refine (HL.out _ _ _ _ _ (below_weaken HB.out HB.out.size (by first | exact HX1.out | exact HX0.out)) (by first | exact .inl ⟨rfl, rfl, rfl, rfl⟩ | exact .inr ⟨rfl, rfl, rfl, rfl⟩)).mono ?_; rintro e w' ⟨rfl, hB⟩; have HX1 := hid (bel_tr (a := w1) (by first | exact HX1.out | exact HX0.out) hB); clear hB; have u1 := blk_cell (blk_below k1.out HX1.out) 1)
      | (go_at_call 55; refine (HKN.out _ (below_weaken HB.out HB.out.size HX1.out)).mono ?_; rintro e w' ⟨rfl, hB⟩; have HX1 := hid (bel_tr (a := w1) HX1.out hB); clear hB))
    go_ret
    exact ⟨rfl, below_weaken HB.out HB.out.size HX1.out⟩
end Go.Proofs.YtbogcknkkbnfnaaDoor

