/- Blocks: too many, outside: closures; lists of lists looked through. -/
import Derived.Test.YthjjkpkohhmgcaaVg
namespace Go.Proofs.Ythjjkpkohhmgcaa
open Go.RowKit Go.Proofs.YthjjkpkohhmgcaaW.PrintWords

/-- A list of integers as it lies. -/
structure LEl (w : World) where
  a : Option Addr
  n : Nat
  c : Nat
  l : List Int
  ok : kI.C w a n l
def LEl.v {w : World} (e : LEl w) : Value := .slice e.a e.n e.c
instance {w : World} : Inhabited (LEl w) := ⟨⟨none, 0, 0, [], ⟨rfl, by simp, fun h => absurd h (Nat.lt_irrefl 0)⟩⟩⟩
theorem tooMany_any (m : Int) (w : World) : Calls Try.prog 32 #[.int .i64 m] w fun e w' => e = .returned (.func (.func 46) #[] #[.pointer (some ⟨w.heap.size, 0, none⟩)]) ∧ w' = w.alloc (.cells #[.int .i64 m] 3) := by
  go_enter Try.func32, Try.ntmps32
  go_wp2
  go_ret
  exact ⟨rfl, rfl⟩
theorem outside_any (m : Int) (w : World) : Calls Try.prog 33 #[.int .i64 m] w fun e w' => e = .returned (.func (.func 47) #[] #[.pointer (some ⟨w.heap.size, 0, none⟩)]) ∧ w' = w.alloc (.cells #[.int .i64 m] 3) := by
  go_enter Try.func33, Try.ntmps33
  go_wp2
  go_ret
  exact ⟨rfl, rfl⟩
theorem pred_many (m : Int) (B : Nat) (w : World) (hB : B < w.heap.size) (hc : w.cell? ⟨B, 0, none⟩ = some (.int .i64 m)) : PredAt Try.prog 46 #[.pointer (some ⟨B, 0, none⟩)] (LEl.v (w := w)) (fun e => decide (m < e.n)) w := fun W x hb => by
  have hc' : W.cell? ⟨B, 0, none⟩ = some (.int .i64 m) := (hb.cell (p := ⟨B, 0, none⟩) hB).trans hc
  obtain ⟨a, n, c, l, ok⟩ := x
  show Calls Try.prog 46 #[.slice a n c, .pointer (some ⟨B, 0, none⟩)] W fun e w' => e = .returned (.bool (decide (m < n))) ∧ ∃ q, w' = W.drewN q
  clear ok hc
  go_enter Try.func46, Try.ntmps46
  go_wp2
  go_ret
  exact ⟨rfl, 0, rfl⟩
theorem pred_out1 (m : Int) (B : Nat) (w : World) (hB : B < w.heap.size) (hc : w.cell? ⟨B, 0, none⟩ = some (.int .i64 m)) : PredAt Try.prog 49 #[.pointer (some ⟨B, 0, none⟩)] (Value.int .i64) (fun k => decide (k < 0) || decide (m ≤ k)) w := fun W x hb => by
  have hc' : W.cell? ⟨B, 0, none⟩ = some (.int .i64 m) := (hb.cell (p := ⟨B, 0, none⟩) hB).trans hc
  show Calls Try.prog 49 #[.int .i64 x, .pointer (some ⟨B, 0, none⟩)] W _
  clear hc
  by_cases h : x < 0
  · go_enter Try.func49, Try.ntmps49
    go_wp2_with fail
    go_ret
    exact ⟨by simp [h], 0, rfl⟩
  · go_enter Try.func49, Try.ntmps49
    go_wp2_with fail
    go_ret
    exact ⟨by simp; omega, 0, rfl⟩
def outB (m : Int) (l : List Int) : Bool := l.any fun k => decide (k < 0) || decide (m ≤ k)
theorem pred_out (m : Int) (B : Nat) (w : World) (hB : B < w.heap.size) (hc : w.cell? ⟨B, 0, none⟩ = some (.int .i64 m)) : PredAt Try.prog 47 #[.pointer (some ⟨B, 0, none⟩)] (LEl.v (w := w)) (fun e => outB m e.l) w := fun W x hb => by
  have hc' : W.cell? ⟨B, 0, none⟩ = some (.int .i64 m) := (hb.cell (p := ⟨B, 0, none⟩) hB).trans hc
  obtain ⟨a, n, c, l, ok⟩ := x
  show Calls Try.prog 47 #[.slice a n c, .pointer (some ⟨B, 0, none⟩)] W _
  show Calls Try.prog 47 _ W fun e w' => e = .returned (.bool (outB m l)) ∧ ∃ q, w' = W.drewN q
  have okW := Kd.C_below ok hb
  obtain rfl : l.length = n := ok.1
  have hmx : l.length ≤ 9223372036854775807 := okW.2.1
  have eg : ∀ args w, (callFunc 49 args).run Try.prog w = .ok (.enter 49 args) w := enters_of Try.func49 (by kernel_rfl) rfl
  have HC : Hid (Calls Try.prog 48 #[.slice a l.length c, .func (.func 49) #[] #[.pointer (some ⟨B, 0, none⟩)]] W fun e w' => e = .returned (.bool (outB m l)) ∧ ∃ q, w' = W.drewN q) := by
    by_cases hn : 0 < l.length
    · obtain ⟨g, off, rfl⟩ := C_plain okW hn (by decide)
      have := AnyE.slices_ContainsFunc Try.anyI (Value.int .i64) (fun k => decide (k < 0) || decide (m ≤ k)) 49 #[.pointer (some ⟨B, 0, none⟩)] eg g off l.length c l W (pred_out1 m B W (Nat.lt_of_lt_of_le hB hb.size) hc') (Nat.le_refl _) hmx (fun j hj => by
        have := C_scalar (h1 := fun _ => rfl) okW 0 j hj
        rw [this]
        simp [List.getD, hj])
      rw [List.take_length] at this
      exact this
    · have h0 : l = [] := List.eq_nil_of_length_eq_zero (by omega)
      subst h0
      exact (AnyE.slices_ContainsFunc_empty Try.anyI a c _ W).mono fun e w' ⟨h1, h2⟩ => ⟨h1, 0, h2⟩
  clear ok okW hc hc' hmx eg
  generalize outB m l = r at *
  go_enter Try.func47, Try.ntmps47
  go_wp2_with (go_at_call 48; refine HC.out.mono ?_; rintro e w' ⟨rfl, q, rfl⟩)
  go_ret
  exact ⟨rfl, q, rfl⟩
theorem els_of {w : World} {A : Option Addr} {n : Nat} {ls : List (List Int)} (h : kIs.C w A n ls) (hn : 0 < n) : ∃ b off, A = some ⟨b, off, none⟩ ∧ ∃ E : List (LEl w), E.map (·.l) = ls ∧ E.length = n ∧ ∀ j, j < E.length → w.cell? ⟨b, off + j, none⟩ = some (LEl.v E[j]!) := by
  obtain ⟨b, off, rfl⟩ := C_plain h hn (by decide)
  obtain ⟨hl, _, h3⟩ := h
  obtain ⟨ad, e, h4⟩ := h3 hn
  cases e
  have key : ∀ i, i < n → ∃ x : LEl w, ls[i]? = some x.l ∧ w.cell? ⟨b, off + i, none⟩ = some x.v := by
    intro i hi
    obtain ⟨cs, _, hk, h5⟩ := h4 i ls[i] (List.getElem?_eq_getElem (by omega))
    obtain ⟨a, c, rfl, _, hC⟩ := hk
    have := h5 0 _ rfl
    rw [add_off, show off + (i * kIs.sz + 0) = off + i by show off + (i * 1 + 0) = off + i; omega] at this
    exact ⟨⟨a, _, c, ls[i], hC⟩, List.getElem?_eq_getElem (by omega), this⟩
  obtain ⟨E, hE, hx⟩ := Op.list_of n key
  refine ⟨b, off, rfl, E, ?_, hE, fun j hj => ?_⟩
  · apply List.ext_getElem?
    intro i
    rw [List.getElem?_map]
    by_cases hi : i < n
    · rw [List.getElem?_eq_getElem (by omega)]
      exact (hx i _ (List.getElem?_eq_getElem (by omega))).1.symm
    · rw [List.getElem?_eq_none (by omega), List.getElem?_eq_none (by omega)]; rfl
  · have := (hx j _ (List.getElem?_eq_getElem hj)).2
    rw [this]
    simp [hj]
theorem lists_many {g : Nat} {q : List Int → Bool} {A : Option Addr} {n c B : Nat} {ls : List (List Int)} {w : World} (h : kIs.C w A n ls) (eg : ∀ args w, (callFunc g args).run Try.prog w = .ok (.enter g args) w) (hp : PredAt Try.prog g #[.pointer (some ⟨B, 0, none⟩)] (LEl.v (w := w)) (fun e => q e.l) w) :
    Calls Try.prog 31 #[.slice A n c, .func (.func g) #[] #[.pointer (some ⟨B, 0, none⟩)]] w fun e w' => e = .returned (.bool (ls.any q)) ∧ ∃ k, w' = w.drewN k := by
  by_cases hn : 0 < n
  · obtain ⟨b, off, rfl, E, rfl, hE, hc⟩ := els_of h hn
    have := AnyE.slices_ContainsFunc Try.anyL (LEl.v (w := w)) (fun e => q e.l) g #[.pointer (some ⟨B, 0, none⟩)] eg b off n c E w hp (by omega) h.2.1 hc
    rw [List.take_of_length_le (by omega)] at this
    rw [List.any_map]
    exact this
  · obtain rfl : n = 0 := by omega
    have h0 : ls = [] := List.eq_nil_of_length_eq_zero h.1
    subst h0
    exact (AnyE.slices_ContainsFunc_empty Try.anyL A c _ w).mono fun e w' ⟨h1, h2⟩ => ⟨h1, 0, h2⟩
def manyB (m : Int) (l : List Int) : Bool := decide (m < (l.length : Int))
theorem many_any {A : Option Addr} {n c B : Nat} {ls : List (List Int)} {m : Int} {w : World} (h : kIs.C w A n ls) (hB : B < w.heap.size) (hc : w.cell? ⟨B, 0, none⟩ = some (.int .i64 m)) :
    Calls Try.prog 31 #[.slice A n c, .func (.func 46) #[] #[.pointer (some ⟨B, 0, none⟩)]] w fun e w' => e = .returned (.bool (ls.any (manyB m))) ∧ ∃ k, w' = w.drewN k :=
  lists_many h (enters_of Try.func46 (by kernel_rfl) rfl) (fun W x hb => by
    have := pred_many m B w hB hc W x hb
    have e : manyB m x.l = decide (m < (x.n : Int)) := by unfold manyB; rw [x.ok.1]
    show FnGives _ _ _ _ (Value.bool (manyB m x.l)) W
    rw [e]
    exact this)
theorem outs_any {A : Option Addr} {n c B : Nat} {ls : List (List Int)} {m : Int} {w : World} (h : kIs.C w A n ls) (hB : B < w.heap.size) (hc : w.cell? ⟨B, 0, none⟩ = some (.int .i64 m)) :
    Calls Try.prog 31 #[.slice A n c, .func (.func 47) #[] #[.pointer (some ⟨B, 0, none⟩)]] w fun e w' => e = .returned (.bool (ls.any (outB m))) ∧ ∃ k, w' = w.drewN k :=
  lists_many h (enters_of Try.func47 (by kernel_rfl) rfl) (pred_out m B w hB hc)
end Go.Proofs.Ythjjkpkohhmgcaa
