/- Blocks: Of's walk. -/
import Derived.Test.YthjjkpkohhmgcaaXc
import Derived.Test.YthjjkpkohhmgcaaVn
import Derived.Test.YthjjkpkohhmgcaaShelf
namespace Go.Proofs.Ythjjkpkohhmgcaa
open Go.RowKit Go.Proofs.YthjjkpkohhmgcaaW.PrintWords Go.Proofs.Ythjjkpkohhmgcaa.Blk Go.Maps Go.WideMaps

/-- What Of answers. -/
def OfPost (next thrown : List (List Int)) (w : World) (e : Ending) (w' : World) : Prop :=
  Below w.heap.size w w' ∧ ((codeE next thrown ≠ 0 ∧ e = .returned (.tuple #[.slice none 0 0, .int .i64 (codeE next thrown)])) ∨ (MayC next thrown ∧ ∃ A c, e = .returned (.tuple #[.slice A (many (codeOf next thrown)) c, .int .i64 0]) ∧ kB.C w' A (many (codeOf next thrown)) (blocksOf (codeOf next thrown))))
theorem box_second (w : World) (v : Value) (t : TypeId) (k : Nat) : (((w.alloc (.cells #[v] t)).drewN k).alloc (.cells #[v] t)).cell? ⟨w.heap.size + 1, 0, none⟩ = some v := by
  have h := blk_cell (blk_new ((w.alloc (.cells #[v] t)).drewN k) (.cells #[v] t)) 0
  have e : ((w.alloc (.cells #[v] t)).drewN k).heap.size = w.heap.size + 1 := World.size_alloc w _
  rw [e] at h
  exact h
theorem kIs_take {w : World} {A : Option Addr} {n : Nat} {xs : List (List Int)} (h : kIs.C w A n xs) (m : Nat) : kIs.C w A (min m n) (xs.take m) := by
  obtain ⟨h1, h2, h3⟩ := h
  refine ⟨by rw [List.length_take, h1], by omega, fun hp => ?_⟩
  obtain ⟨ad, e, h4⟩ := h3 (by omega)
  exact ⟨ad, e, fun j p hj => h4 j p (by
    rw [List.getElem?_take] at hj
    split at hj
    · exact hj
    · cases hj)⟩
/-- List i, as it lies. -/
theorem kIs_get {w : World} {b off n : Nat} {ls : List (List Int)} (h : kIs.C w (some ⟨b, off, none⟩) n ls) {i : Nat} (hi : i < n) : ∃ a c, w.cell? ⟨b, off + i, none⟩ = some (.slice a (ls.getD i []).length c) ∧ kI.C w a (ls.getD i []).length (ls.getD i []) := by
  obtain ⟨ad, cc, e, _, hK, hc0⟩ := Kd.C_get h [] (i : Int) (by omega) (by omega)
  cases e
  rw [Int.toNat_natCast] at hK hc0
  obtain ⟨a, c, rfl, _, hC⟩ := hK
  refine ⟨a, c, ?_, hC⟩
  have := hc0 0 _ rfl
  rw [add_off, show off + (i * kIs.sz + 0) = off + i by show off + (i * 1 + 0) = off + i; omega] at this
  exact this
theorem equal_one (A : Option Addr) (n c b : Nat) (xs : List Int) (z : Int) (w : World) (h : kI.C w A n xs) (hb : w.cell? ⟨b, 0, none⟩ = some (.int .i64 z)) :
    Calls Try.prog 34 #[.slice A n c, .slice (some ⟨b, 0, none⟩) 1 1] w fun e w' => e = .returned (.bool (xs == [z])) ∧ ∃ q, w' = w.drewN q := by
  obtain rfl : xs.length = n := h.1
  have hm := h.2.1
  by_cases hp : 0 < xs.length
  · obtain ⟨g, off, rfl⟩ := C_plain h hp (by decide)
    have := Try.slices_Equal_int g off xs.length c b 0 1 1 xs [z] w (Nat.le_refl _) (Nat.le_refl _) hm (by decide) (fun j hj => C_scalar (h1 := fun _ => rfl) h 0 j hj) (fun j hj => by
      obtain rfl : j = 0 := by simpa using hj
      exact hb)
    rw [List.take_of_length_le (Nat.le_refl xs.length)] at this
    exact this
  · have h0 : xs = [] := List.eq_nil_of_length_eq_zero (by omega)
    subst h0
    exact (Try.slices_Equal_int_empty A _ c 1 1 w (by decide)).mono fun e w' ⟨h1, h2⟩ => ⟨h1, 0, h2⟩
theorem nats_eq {l : List Int} {n i : Nat} (hl : ∀ k ∈ l, 0 ≤ k ∧ k < (n : Int)) : (l == [(i : Int) + 1]) = (nats l == [i + 1]) := by
  rw [Bool.eq_iff_iff, beq_iff_eq, beq_iff_eq]
  constructor
  · rintro rfl; unfold nats; simp
  · intro h
    have := nats_ints hl
    rw [h] at this
    rw [← this]
    simp [ints]
/-- Where blocks begin, in a map: p tells what is there; at most K entries. -/
structure O1 (w2 : World) (m K : Nat) (p : Nat → Bool) (wr : World) : Prop where
  below : Below w2.heap.size w2 wr
  mi : MI wr m K (setF p)
  old : w2.heap.size ≤ m
section
variable {w2 wr w1 : World} {m K : Nat} {p : Nat → Bool}
theorem O1.mono (h : O1 w2 m K p wr) {K' : Nat} (hk : K ≤ K') : O1 w2 m K' p wr := ⟨h.below, h.mi.mono hk, h.old⟩
theorem O1.step (h : O1 w2 m K p wr) (hb : Below wr.heap.size wr w1) : O1 w2 m K p w1 := ⟨below_weaken h.below h.below.size hb, h.mi.below hb, h.old⟩
theorem O1.put (h : O1 w2 m K p wr) {v : Nat} (hm : MI w1 m (K + 1) (updI (setF p) (v : Int) 1)) (hg : wr.grownBy w1 (some m)) : O1 w2 m (K + 1) (fun x => p x || x == v) w1 :=
  ⟨h.below.grown hg h.below.size (fun k hk => by injection hk with hk; have := h.old; omega), by rw [← setF_upd]; exact hm, h.old⟩
end
theorem last_get (l : List Bk) (x : Bk) {K : Nat} (h : l.length = K) : (l ++ [x]).getD K zBk = x := by
  rw [List.getD_eq_getElem?_getD, List.getElem?_append_right (by omega), h]
  simp
theorem last_set (l : List Bk) (x y : Bk) {K : Nat} (h : l.length = K) : (l ++ [x]).set K y = l ++ [y] := by
  rw [List.set_append_right _ _ (by omega), h]
  simp
/-- The blocks as far as they are laid, their numbers in a map. -/
structure O2 (cd : Cod) (wB : World) (mn i : Nat) (oV : Value) (wr : World) : Prop where
  below : Below wB.heap.size wB wr
  num : MI wr mn i (numF cd i)
  out : kB.R 45 wr wB.heap.size (fun k => k ≠ mn) oV (outC cd i)
  old : wB.heap.size ≤ mn
/-- The blocks are laid; where they go on is told of the first b. -/
structure O3 (cd : Cod) (wB : World) (mn g m cap n b : Nat) (wr : World) : Prop where
  below : Below wB.heap.size wB wr
  num : MI wr mn n (numF cd n)
  out : kB.R 45 wr wB.heap.size (fun k => k ≠ mn) (.slice (some ⟨g, 0, none⟩) m cap) (outG cd b)
  old : wB.heap.size ≤ mn
/-- .. and of block b some, in a map. -/
structure O4 (cd : Cod) (wB : World) (mn g m cap n b ms K : Nat) (p : Nat → Bool) (wr : World) : Prop where
  below : Below wB.heap.size wB wr
  num : MI wr mn n (numF cd n)
  out : kB.R 45 wr wB.heap.size (fun k => k ≠ mn ∧ k ≠ ms) (.slice (some ⟨g, 0, none⟩) m cap) (outG cd b)
  old : wB.heap.size ≤ mn
  set : MI wr ms K (setF p)
  young : mn < ms
section
variable {cd : Cod} {wB wr w1 : World} {mn g m cap n b ms K : Nat} {p : Nat → Bool}
theorem O3.open_ (h : O3 cd wB mn g m cap n b wr) : O4 cd wB mn g m cap n b wr.heap.size 0 (fun _ => false) (wr.alloc (.map #[] 0)) :=
  ⟨h.below.alloc h.below.size _, h.num.below (below_alloc (Below.refl _ _) _), Kd.R_alloc (R_young h.out (Nat.le_refl _)) _, h.old, by rw [← setF_none]; exact MI.made wr, h.num.lt⟩
theorem O4.mono (h : O4 cd wB mn g m cap n b ms K p wr) {K' : Nat} (hk : K ≤ K') : O4 cd wB mn g m cap n b ms K' p wr := ⟨h.below, h.num, h.out, h.old, h.set.mono hk, h.young⟩
theorem O4.put (h : O4 cd wB mn g m cap n b ms K p wr) {v : Nat} (hm : MI w1 ms (K + 1) (updI (setF p) (v : Int) 1)) (hg : wr.grownBy w1 (some ms)) : O4 cd wB mn g m cap n b ms (K + 1) (fun x => p x || x == v) w1 :=
  ⟨h.below.grown hg h.below.size (fun k hk => by injection hk with hk; have := h.old; have := h.young; omega), h.num.move (hg.block mn h.num.lt (fun e => by injection e with e; have := h.young; omega)), Kd.R_grown h.out hg (fun k hk e => hk.2 (by injection e)), h.old, by rw [← setF_upd]; exact hm, h.young⟩
theorem O4.look (h : O4 cd wB mn g m cap n b ms K p wr) {v : Nat} (hv : v < n) (hn : n ≤ 8192) (hb : bg cd v = true) : (Instr.lookup 67 (.map (some mn)) (.int .i64 (v : Int)) false).run Try.prog wr = .ok (.int .i64 (Blk.num cd v : Int)) wr := by
  have := h.num.look (k := (v : Int)) (WalkArith.wf_i64 (by omega))
  rw [numF_get hb hv] at this
  exact this
/-- What lies of block b. -/
theorem O4.elem (h : O4 cd wB mn g m cap n b ms K p wr) (hm : m = many cd) (hb : b < m) : wr.cell? ⟨g, b * 4, none⟩ = some (.int .i64 (fromB cd b : Int)) ∧ wr.cell? ⟨g, b * 4 + 1, none⟩ = some (.int .i64 (toB cd b : Int)) := by
  obtain ⟨v, _, e0, e1, _, _, _⟩ := kB_elem h.out hb
  rw [outG_get (by omega)] at e0 e1
  exact ⟨e0, e1⟩
/-- All told of block b. -/
theorem O4.shut (h : O4 cd wB mn g m cap n b ms K p wr) (hm : m = many cd) (hb : b < m) (hw : Below wr.heap.size wr w1) {v : Value} (hv : kI.R 3 w1 wr.heap.size (fun _ => True) v (ints (goes cd b))) :
    (∃ u, w1.cell? ⟨g, b * 4 + 2, none⟩ = some u) ∧ w1.frozen? ⟨g, b * 4 + 2, none⟩ = false ∧ O3 cd wB mn g m cap n (b + 1) (w1.setCell ⟨g, b * 4 + 2, none⟩ v) := by
  have hR : kB.R 45 w1 wB.heap.size (fun k => k ≠ mn) (.slice (some ⟨g, 0, none⟩) m cap) (outG cd b) := Kd.R_mono (Kd.R_below h.out hw) (fun k hk => hk.1)
  have hg : g < wr.heap.size := Kd.R_lt h.out g rfl
  have hgb : wB.heap.size ≤ g := Kd.R_base h.out g rfl
  have hmn := h.num.lt
  have hl : kI.R 3 w1 wB.heap.size (fun k => k ≠ mn ∧ k ≠ g) v (ints (goes cd b)) := Kd.R_lower (Kd.R_mono (Kd.R_bound hv) (fun k hk => by have := hk.2.1; omega)) h.below.size
  obtain ⟨u, _, _, _, e2, _, ef⟩ := kB_elem hR hb
  have hx : (outG cd b).getD b zBk = ⟨(fromB cd b : Int), (toB cd b : Int), [], false⟩ := by rw [outG_get (by omega), if_neg (Nat.lt_irrefl b)]
  obtain ⟨r1, _⟩ := kB_goes hR hb hx hl
  obtain ⟨_, _, _, _, _, cells, hc⟩ := Kd.R_form hR (by rw [outG_len]; omega)
  rename_i g0 c0 e0 _ _ 
  injection e0 with e0
  injection e0 with e0
  injection e0 with e0
  subst e0
  refine ⟨⟨u, e2⟩, ef 2, (h.below.trans (hw.mono h.below.size)).setCell hgb _, ?_, by rw [← outG_step]; exact r1, h.old⟩
  have hn1 := h.num.below hw
  exact hn1.move (Below.heap_setCell w1 ⟨g, _, none⟩ v mn (hn1.notCells hc))
end
/-- Those that are reached are marked. -/
structure O5 (cd : Cod) (wB wL : World) (g m cap : Nat) (D : List Nat) (w : World) : Prop where
  below : Below wB.heap.size wB w
  out : kB.R 45 w wB.heap.size (fun _ => True) (.slice (some ⟨g, 0, none⟩) m cap) (outS cd D)
  same : ∀ k, k ≠ g → k < wL.heap.size → w.heap[k]? = wL.heap[k]?
theorem O5.put {cd : Cod} {wB wL w : World} {g m cap : Nat} {D : List Nat} (h : O5 cd wB wL g m cap D w) (hm : m = many cd) {v : Nat} (hv : v < m) : (∃ u, w.cell? ⟨g, v * 4 + 3, none⟩ = some u) ∧ w.frozen? ⟨g, v * 4 + 3, none⟩ = false ∧ O5 cd wB wL g m cap (D ++ [v]) (w.setCell ⟨g, v * 4 + 3, none⟩ (.bool true)) := by
  obtain ⟨u, _, _, _, _, e3, ef⟩ := kB_elem h.out hv
  obtain ⟨r1, _⟩ := kB_seen h.out hv (outS_get (by omega)) true
  exact ⟨⟨_, e3⟩, ef 3, h.below.setCell (Kd.R_base h.out g rfl) _, by rw [← outS_step]; exact r1, fun k hk hl => (Below.heap_setCell w ⟨g, _, none⟩ _ k hk).trans (h.same k hk hl)⟩
theorem may_outS {cd : Cod} (h0 : 0 < many cd) (h1 : many cd ≤ 8192) (D : List Nat) : May 20000 (outS cd D) := by
  refine ⟨by rw [outS_len]; exact h0, by rw [outS_len]; exact h1, fun x hx => ?_⟩
  obtain ⟨b, _, rfl⟩ := List.mem_map.1 hx
  refine ⟨?_, fun k hk => ?_⟩
  · show (ints (goes cd b)).length ≤ 20000
    rw [ints_len]
    have := List.length_filter_le (fun k => (cd.nx (toB cd b - 1)).contains (fromB cd k) || (List.range (toB cd b - fromB cd b)).any fun j => (cd.th (fromB cd b + j)).contains (fromB cd k)) (List.range (many cd))
    rw [List.length_range] at this
    have e : (goes cd b).length ≤ many cd := this
    omega
  · obtain ⟨x, hx, rfl⟩ := List.mem_map.1 hk
    have := goes_lt hx
    rw [outS_len]
    omega
theorem outS_congr {cd : Cod} {D D' : List Nat} (h : ∀ x, x ∈ D ↔ x ∈ D') : outS cd D = outS cd D' := by
  unfold outS
  refine List.map_congr_left fun b _ => ?_
  simp only [h b]
theorem O2.told {cd : Cod} {wB w6 : World} {mn i j g n cap : Nat} {l l' : List Bk} {u : Value} {a : Nat} (hb : Below wB.heap.size wB w6) (hn : MI w6 mn j (numF cd j)) (hne : mn ≠ g) (hg : wB.heap.size ≤ g) (ho : wB.heap.size ≤ mn) (hr : kB.R 45 (w6.setCell ⟨g, a, none⟩ u) wB.heap.size (fun k => k ≠ mn) (.slice (some ⟨g, 0, none⟩) n cap) l) (e : l = l') (e' : l' = outC cd j) (_ : i = i) : O2 cd wB mn j (.slice (some ⟨g, 0, none⟩) n cap) (w6.setCell ⟨g, a, none⟩ u) := by
  subst e e'
  exact ⟨hb.setCell hg _, hn.move (Below.heap_setCell w6 ⟨g, a, none⟩ u mn hne), hr, ho⟩
set_option maxRecDepth 100000 in
set_option maxHeartbeats 8000000 in
theorem of_any (A1 A2 : Option Addr) (c1 c2 : Nat) (next thrown : List (List Int)) (w : World) (h1 : kIs.C w A1 next.length next) (h2 : kIs.C w A2 thrown.length thrown) (hc2 : thrown.length ≤ c2) :
    Calls Try.prog 20 #[.slice A1 next.length c1, .slice A2 thrown.length c2] w (OfPost next thrown w) := by
  have HC1 := hid h1
  have HC2 := hid h2
  have HTK := hid (kIs_take h2 next.length)
  have m1 := h1.2.1
  have m2 := h2.2.1
  have HM1 := hid (fun (W : World) (hb : Below w.heap.size w W) (B : Nat) (hB : B < W.heap.size) (hc : W.cell? ⟨B, 0, none⟩ = some (.int .i64 2000)) => many_any (c := c1) (Kd.C_below h1 hb) hB hc)
  have HM2 := hid (fun (W : World) (hb : Below w.heap.size w W) (B : Nat) (hB : B < W.heap.size) (hc : W.cell? ⟨B, 0, none⟩ = some (.int .i64 2000)) => many_any (c := c2) (Kd.C_below HTK.out hb) hB hc)
  have HO1 := hid (fun (W : World) (hb : Below w.heap.size w W) (B : Nat) (hB : B < W.heap.size) (hc : W.cell? ⟨B, 0, none⟩ = some (.int .i64 next.length)) => outs_any (c := c1) (Kd.C_below h1 hb) hB hc)
  have HO2 := hid (fun (W : World) (hb : Below w.heap.size w W) (B : Nat) (hB : B < W.heap.size) (hc : W.cell? ⟨B, 0, none⟩ = some (.int .i64 next.length)) => outs_any (c := c2) (Kd.C_below h2 hb) hB hc)
  have HMC := hid (codeE_may next thrown)
  obtain ⟨z, hz⟩ : ∃ z, codeE next thrown = z := ⟨_, rfl⟩
  have HZ := hid hz
  unfold codeE at hz
  have HE := hid hz
  clear h1 h2 HTK hz
  generalize hbn : next.any (manyB 2000) = bn at *
  generalize hbt : (thrown.take next.length).any (manyB 2000) = bt at *
  generalize hon : next.any (outB next.length) = on at *
  generalize hot : thrown.any (outB next.length) = ot at *
  clear hbn hbt hon hot
  generalize hN : next.length = N at *
  generalize hT : thrown.length = T at *
  have HN := hid hN
  have HT := hid hT
  clear hN hT
  generalize hM : min N T = M at *
  have hmm : (min (N : Int) (T : Int)).toNat = M := by rw [← hM]; omega
  clear hM
  have HMX := hid (show ∀ (A : Option Addr) (n c : Nat) (bq : Bool), ((A = A1 ∧ n = N ∧ c = c1 ∧ bq = bn) ∨ (A = A2 ∧ n = M ∧ c = c2 ∧ bq = bt)) → ∀ (W : World), Below w.heap.size w W → ∀ B : Nat, B < W.heap.size → W.cell? ⟨B, 0, none⟩ = some (.int .i64 2000) → Calls Try.prog 31 #[.slice A n c, .func (.func 46) #[] #[.pointer (some ⟨B, 0, none⟩)]] W fun e w' => e = .returned (.bool bq) ∧ ∃ k, w' = W.drewN k from by
    rintro A n c bq (⟨rfl, rfl, rfl, rfl⟩ | ⟨rfl, rfl, rfl, rfl⟩) W hb B hB hc
    · exact HM1.out W hb B hB hc
    · exact HM2.out W hb B hB hc)
  have HOX := hid (show ∀ (A : Option Addr) (n c : Nat) (bq : Bool), ((A = A1 ∧ n = N ∧ c = c1 ∧ bq = on) ∨ (A = A2 ∧ n = T ∧ c = c2 ∧ bq = ot)) → ∀ (W : World), Below w.heap.size w W → ∀ B : Nat, B < W.heap.size → W.cell? ⟨B, 0, none⟩ = some (.int .i64 N) → Calls Try.prog 31 #[.slice A n c, .func (.func 47) #[] #[.pointer (some ⟨B, 0, none⟩)]] W fun e w' => e = .returned (.bool bq) ∧ ∃ k, w' = W.drewN k from by
    rintro A n c bq (⟨rfl, rfl, rfl, rfl⟩ | ⟨rfl, rfl, rfl, rfl⟩) W hb B hB hc
    · exact HO1.out W hb B hB hc
    · exact HO2.out W hb B hB hc)
  clear HM1 HM2 HO1 HO2
  by_cases h8 : 8192 < N
  · have l8 : (8192 : Int) < N := by omega
    have HE2 := hid (show z = 5 by rw [← HE.out, if_pos (.inl h8)])
    go_enter Try.func20, Try.ntmps20
    go_wp2_with fail
    go_ret2
    exact ⟨Below.refl _ _, .inl ⟨by rw [HZ.out, HE2.out]; decide, by rw [HZ.out, HE2.out]; rfl⟩⟩
  have l8 : ¬ ((8192 : Int) < N) := by omega
  cases bn with
  | true =>
    have HE2 := hid (show z = 5 by rw [← HE.out, if_pos (.inr (.inl rfl))])
    go_enter Try.func20, Try.ntmps20
    go_wp2_with (first | (go_at_call 32; refine (tooMany_any _ _).mono ?_; rintro e w' ⟨rfl, rfl⟩) | (go_at_call 31; refine (HMX.out _ _ _ _ (by first | exact .inl ⟨rfl, rfl, rfl, rfl⟩ | exact .inr ⟨rfl, rfl, rfl, rfl⟩) _ (by first | exact below_alloc (Below.refl _ w) _ | exact below_alloc (pw_below_drewN (below_alloc (Below.refl _ w) _) _) _ | exact pw_below_drewN (below_alloc (below_alloc (Below.refl _ w) _) _) _) _ (by simp) (by first | exact blk_cell (blk_new _ _) 0 | exact box_second _ _ _ _)).mono ?_; rintro e w' ⟨rfl, k, rfl⟩))
    go_ret2
    exact ⟨pw_below_drewN (below_alloc (Below.refl _ _) _) _, .inl ⟨by rw [HZ.out, HE2.out]; decide, by rw [HZ.out, HE2.out]; rfl⟩⟩
  | false =>
  cases bt with
  | true =>
    have HE2 := hid (show z = 5 by rw [← HE.out, if_pos (.inr (.inr rfl))])
    go_enter Try.func20, Try.ntmps20
    go_wp2_with (first | (go_at_call 32; refine (tooMany_any _ _).mono ?_; rintro e w' ⟨rfl, rfl⟩) | (go_at_call 31; refine (HMX.out _ _ _ _ (by first | exact .inl ⟨rfl, rfl, rfl, rfl⟩ | exact .inr ⟨rfl, rfl, rfl, rfl⟩) _ (by first | exact below_alloc (Below.refl _ w) _ | exact below_alloc (pw_below_drewN (below_alloc (Below.refl _ w) _) _) _ | exact pw_below_drewN (below_alloc (below_alloc (Below.refl _ w) _) _) _) _ (by simp) (by first | exact blk_cell (blk_new _ _) 0 | exact box_second _ _ _ _)).mono ?_; rintro e w' ⟨rfl, k, rfl⟩))
    go_ret2
    exact ⟨pw_below_drewN (below_alloc (pw_below_drewN (below_alloc (Below.refl _ _) _) _) _) _, .inl ⟨by rw [HZ.out, HE2.out]; decide, by rw [HZ.out, HE2.out]; rfl⟩⟩
  | false =>
  by_cases h0 : N = 0 ∨ T ≠ N
  · have HE2 := hid (show z = 2 by rw [← HE.out, if_neg (by simp; omega), if_pos h0])
    rcases h0 with h0 | h0
    · have h0' : ((N : Int) == 0) = true := by simp; omega
      clear h0
      go_enter Try.func20, Try.ntmps20
      go_wp2_with (first | (go_at_call 32; refine (tooMany_any _ _).mono ?_; rintro e w' ⟨rfl, rfl⟩) | (go_at_call 31; refine (HMX.out _ _ _ _ (by first | exact .inl ⟨rfl, rfl, rfl, rfl⟩ | exact .inr ⟨rfl, rfl, rfl, rfl⟩) _ (by first | exact below_alloc (Below.refl _ w) _ | exact below_alloc (pw_below_drewN (below_alloc (Below.refl _ w) _) _) _ | exact pw_below_drewN (below_alloc (below_alloc (Below.refl _ w) _) _) _) _ (by simp) (by first | exact blk_cell (blk_new _ _) 0 | exact box_second _ _ _ _)).mono ?_; rintro e w' ⟨rfl, k, rfl⟩))
      go_ret2
      exact ⟨pw_below_drewN (below_alloc (pw_below_drewN (below_alloc (Below.refl _ _) _) _) _) _, .inl ⟨by rw [HZ.out, HE2.out]; decide, by rw [HZ.out, HE2.out]; rfl⟩⟩
    · have h0' : ((T : Int) != (N : Int)) = true := by simp; omega
      clear h0
      cases h00 : ((N : Int) == 0)
      all_goals
        go_enter Try.func20, Try.ntmps20
        go_wp2_with (first | (go_at_call 32; refine (tooMany_any _ _).mono ?_; rintro e w' ⟨rfl, rfl⟩) | (go_at_call 31; refine (HMX.out _ _ _ _ (by first | exact .inl ⟨rfl, rfl, rfl, rfl⟩ | exact .inr ⟨rfl, rfl, rfl, rfl⟩) _ (by first | exact below_alloc (Below.refl _ w) _ | exact below_alloc (pw_below_drewN (below_alloc (Below.refl _ w) _) _) _ | exact pw_below_drewN (below_alloc (below_alloc (Below.refl _ w) _) _) _) _ (by simp) (by first | exact blk_cell (blk_new _ _) 0 | exact box_second _ _ _ _)).mono ?_; rintro e w' ⟨rfl, k, rfl⟩))
        go_ret2
        exact ⟨pw_below_drewN (below_alloc (pw_below_drewN (below_alloc (Below.refl _ _) _) _) _) _, .inl ⟨by rw [HZ.out, HE2.out]; decide, by rw [HZ.out, HE2.out]; rfl⟩⟩
  obtain rfl : T = N := by omega
  obtain rfl : M = T := by rw [← hmm]; omega
  have h00 : ((M : Int) == 0) = false := by simp; omega
  clear h0 hmm
  go_enter Try.func20, Try.ntmps20
  go_upto_region 7 with (first | (go_at_call 32; refine (tooMany_any _ _).mono ?_; rintro e w' ⟨rfl, rfl⟩) | (go_at_call 31; refine (HMX.out _ _ _ _ (by first | exact .inl ⟨rfl, rfl, rfl, rfl⟩ | exact .inr ⟨rfl, rfl, rfl, rfl⟩) _ (by first | exact below_alloc (Below.refl _ w) _ | exact below_alloc (pw_below_drewN (below_alloc (Below.refl _ w) _) _) _ | exact pw_below_drewN (below_alloc (below_alloc (Below.refl _ w) _) _) _) _ (by simp) (by first | exact blk_cell (blk_new _ _) 0 | exact box_second _ _ _ _)).mono ?_; rintro e w' ⟨rfl, k, rfl⟩))
  generalize hW : World.drewN (World.alloc _ _) _ = w1
  have HBw : Hid (Below w.heap.size w w1) := by rw [← hW]; exact pw_below_drewN (below_alloc (pw_below_drewN (below_alloc (Below.refl _ _) _) _) _) _
  clear HMX hW
  cases on with
  | true =>
    have HE2 := hid (show z = 9 by rw [← HE.out, if_neg (by simp; omega), if_neg (by simp at h00; simp; omega), if_pos (.inl rfl)])
    go_wp2_with (first | (go_at_call 33; refine (outside_any _ _).mono ?_; rintro e w' ⟨rfl, rfl⟩) | (go_at_call 31; refine (HOX.out _ _ _ _ (by first | exact .inl ⟨rfl, rfl, rfl, rfl⟩ | exact .inr ⟨rfl, rfl, rfl, rfl⟩) _ (below_step HBw.out (by first | exact below_alloc (Below.refl _ _) _ | exact below_alloc (pw_below_drewN (below_alloc (Below.refl _ _) _) _) _)) _ (by simp) (by first | exact blk_cell (blk_new _ _) 0 | exact box_second _ _ _ _)).mono ?_; rintro e w' ⟨rfl, k, rfl⟩))
    go_ret2
    exact ⟨below_step HBw.out (pw_below_drewN (below_alloc (Below.refl _ _) _) _), .inl ⟨by rw [HZ.out, HE2.out]; decide, by rw [HZ.out, HE2.out]; rfl⟩⟩
  | false =>
  cases ot with
  | true =>
    have HE2 := hid (show z = 9 by rw [← HE.out, if_neg (by simp; omega), if_neg (by simp at h00; simp; omega), if_pos (.inr rfl)])
    go_wp2_with (first | (go_at_call 33; refine (outside_any _ _).mono ?_; rintro e w' ⟨rfl, rfl⟩) | (go_at_call 31; refine (HOX.out _ _ _ _ (by first | exact .inl ⟨rfl, rfl, rfl, rfl⟩ | exact .inr ⟨rfl, rfl, rfl, rfl⟩) _ (below_step HBw.out (by first | exact below_alloc (Below.refl _ _) _ | exact below_alloc (pw_below_drewN (below_alloc (Below.refl _ _) _) _) _)) _ (by simp) (by first | exact blk_cell (blk_new _ _) 0 | exact box_second _ _ _ _)).mono ?_; rintro e w' ⟨rfl, k, rfl⟩))
    go_ret2
    exact ⟨below_step HBw.out (pw_below_drewN (below_alloc (pw_below_drewN (below_alloc (Below.refl _ _) _) _) _) _), .inl ⟨by rw [HZ.out, HE2.out]; decide, by rw [HZ.out, HE2.out]; rfl⟩⟩
  | false =>
  have HE2 := hid (show z = 0 by rw [← HE.out, if_neg (by simp; omega), if_neg (by simp at h00; simp; omega), if_neg (by simp)])
  have HMay := hid (HMC.out.1 (HZ.out.trans HE2.out))
  have hmm := @run_makeMap Try.prog
  go_upto_region 9 with (first | (go_at_call 33; refine (outside_any _ _).mono ?_; rintro e w' ⟨rfl, rfl⟩) | (go_at_call 31; refine (HOX.out _ _ _ _ (by first | exact .inl ⟨rfl, rfl, rfl, rfl⟩ | exact .inr ⟨rfl, rfl, rfl, rfl⟩) _ (below_step HBw.out (by first | exact below_alloc (Below.refl _ _) _ | exact below_alloc (pw_below_drewN (below_alloc (Below.refl _ _) _) _) _)) _ (by simp) (by first | exact blk_cell (blk_new _ _) 0 | exact box_second _ _ _ _)).mono ?_; rintro e w' ⟨rfl, k, rfl⟩))
  generalize hW : World.drewN (World.alloc _ _) _ = w2
  have HBw2 : Hid (Below w.heap.size w w2) := by rw [← hW]; exact below_step HBw.out (pw_below_drewN (below_alloc (pw_below_drewN (below_alloc (Below.refl _ _) _) _) _) _)
  clear HOX hW HBw HE HE2 HZ HMC
  have HM0 := hid (MI.made w2)
  go_upto_region 10 with (refine gate_ (.insert 67 (.tmp 68) (.const (.int .i64 0)) (.const (.int .i64 1))) rfl ?_; refine wpList_mi_ins rfl _ _ _ rfl rfl HM0.out (by unfold maxLen; omega) rfl rfl (by decide) (by decide) ?_; intro w3 hM hG; have HM3 := hid hM; have HG3 := hid hG; clear hM hG)
  obtain ⟨cd, hcd⟩ : ∃ cd, cd = codeOf next thrown := ⟨_, rfl⟩
  have HCD := hid hcd
  have HCN := hid (show cd.n = M by rw [hcd, codeOf_n, HN.out])
  clear hcd
  have hMp : 0 < M := by simp at h00; omega
  obtain ⟨lb1, lo1, eA⟩ := C_plain HC1.out hMp (by decide)
  subst eA
  obtain ⟨lb2, lo2, eA⟩ := C_plain HC2.out hMp (by decide)
  subst eA
  have HO0 := hid (show O1 w2 w2.heap.size 1 (bgTo cd 0) w3 from ⟨((Below.refl w2.heap.size w2).alloc (Nat.le_refl _) _).grown HG3.out (by rw [World.size_alloc]; omega) (fun k hk => by injection hk with hk; omega), by rw [← setF_zero]; exact HM3.out, Nat.le_refl _⟩)
  generalize hmb : w2.heap.size = mb at *
  have HMB := hid hmb
  clear hmb HM3 HG3 HM0
  go_upto_region 11 with fail
  go_loopw [72] (fun iV wr => ∃ i : Nat, i ≤ M ∧ iV = .int .i64 i ∧ Hid (O1 w2 mb (1 + 4001 * i) (bgTo cd i) wr)) (fun iV _ => M - (intOf iV).toNat)
  case atStart => exact ⟨0, by omega, rfl, HO0⟩
  obtain ⟨i, hi, rfl, HI⟩ := hrel
  clear HO0
  by_cases hiM : i < M
  · obtain ⟨a1, k1, x1, C1⟩ := kIs_get HC1.out hiM
    obtain ⟨a2, k2, x2, C2⟩ := kIs_get HC2.out hiM
    have HN1 := hid (show cd.nx i = nats (next.getD i []) by rw [HCD.out, codeOf_nx])
    have HN2 := hid (show cd.th i = nats (thrown.getD i []) by rw [HCD.out, codeOf_th])
    obtain ⟨l1, hb1⟩ := HMay.out.nxAt (i := i) (by rw [HN.out]; exact hiM)
    obtain ⟨l2, hb2⟩ := HMay.out.thAt (i := i) (by rw [HN.out]; exact hiM)
    rw [HN.out] at hb1 hb2
    generalize next.getD i [] = r1 at *
    generalize thrown.getD i [] = r2 at *
    have HB1 := hid hb1
    have HB2 := hid hb2
    have HC1' := hid C1
    have HC2' := hid C2
    have HX1 := hid (fun W (hB : Below w2.heap.size w2 W) => ((below_step HBw2.out hB).cell (World.block_lt_of_cell? w _ x1)).trans x1)
    have HX2 := hid (fun W (hB : Below w2.heap.size w2 W) => ((below_step HBw2.out hB).cell (World.block_lt_of_cell? w _ x2)).trans x2)
    clear x1 x2 C1 C2 hb1 hb2
    generalize hn1 : r1.length = n1 at *
    generalize hn2 : r2.length = n2 at *
    have HL1 := hid hn1
    have HL2 := hid hn2
    clear hn1 hn2
    have y1 := HX1.out wr HI.out.below
    have li : (i : Int) < M := by omega
    go_upto_region 14 with fail
    clear y1
    go_loopw [79] (fun qV wr => ∃ q : Nat, q ≤ n1 ∧ qV = .int .i64 q ∧ Hid (O1 w2 mb (1 + 4001 * i + q) (beg1 cd i q) wr)) (fun qV _ => n1 - (intOf qV).toNat)
    case atStart => exact ⟨0, by omega, rfl, by rw [beg1_zero]; exact HI⟩
    obtain ⟨q, hq, rfl, HR⟩ := hrel
    clear HI
    by_cases hqn : q < n1
    · obtain ⟨v, hv, hgv, hcv⟩ := nats_get HB1.out (q := q) (by rw [HL1.out]; exact hqn)
      obtain ⟨ga, oa, eA⟩ := C_plain HC1'.out (by omega) (by decide)
      subst eA
      have d1 := C_scalar (h1 := fun _ => rfl) HC1'.out 0 q (by rw [HL1.out]; exact hqn)
      rw [hcv] at d1
      have d2 := ((below_step HBw2.out HR.out.below).cell (World.block_lt_of_cell? w _ d1)).trans d1
      have HGV := hid (show (cd.nx i)[q]? = some v by rw [HN1.out]; exact hgv)
      have lq : (q : Int) < n1 := by omega
      clear d1 hcv hgv
      by_cases hvi : v = i + 1
      · have b1 : ((v : Int) != (i : Int) + 1) = false := by simp; omega
        have HV := hid hvi
        clear hvi
        go_wp2_with fail
        go_roundw
        case rel => exact ⟨q + 1, by omega, by go_num, by rw [beg1_miss HGV.out HV.out]; exact HR.out.mono (by omega)⟩
        case measure => simp [intOf]; omega
      · have b1 : ((v : Int) != (i : Int) + 1) = true := by simp; omega
        have HV := hid hvi
        clear hvi
        go_wp2_with (at_mapUpdate; refine wpList_mi rfl _ _ _ rfl rfl HR.out.mi (by unfold maxLen; omega) rfl rfl (WalkArith.wf_i64 (by omega)) (by decide) ?_; intro w5 hM hG; have HP := hid (HR.out.put hM hG); clear hM hG)
        go_roundw
        case rel => exact ⟨q + 1, by omega, by go_num, by rw [← beg1_hit HGV.out HV.out]; exact HP⟩
        case measure => simp [intOf]; omega
    · obtain rfl : q = n1 := by omega
      have y2 := HX2.out wr HR.out.below
      have HR2 := hid (show O1 w2 mb (1 + 4001 * i + 2000 + 0) (beg2 cd i 0) wr by
        rw [beg2_zero]
        have := HR.out
        rw [show q = (cd.nx i).length by rw [HN1.out, nats_len, HL1.out]] at this
        exact this.mono (by rw [HN1.out, nats_len, HL1.out]; omega))
      clear HR
      go_upto_region 20 with fail
      clear y2
      go_loopw [95] (fun qV wr => ∃ q : Nat, q ≤ n2 ∧ qV = .int .i64 q ∧ Hid (O1 w2 mb (1 + 4001 * i + 2000 + q) (beg2 cd i q) wr)) (fun qV _ => n2 - (intOf qV).toNat)
      case atStart => exact ⟨0, by omega, rfl, HR2⟩
      obtain ⟨q2, hq2, rfl, HR⟩ := hrel
      clear HR2
      by_cases hqn2 : q2 < n2
      · obtain ⟨v, hv, hgv, hcv⟩ := nats_get HB2.out (q := q2) (by rw [HL2.out]; exact hqn2)
        obtain ⟨ga, oa, eA⟩ := C_plain HC2'.out (by omega) (by decide)
        subst eA
        have d1 := C_scalar (h1 := fun _ => rfl) HC2'.out 0 q2 (by rw [HL2.out]; exact hqn2)
        rw [hcv] at d1
        have d2 := ((below_step HBw2.out HR.out.below).cell (World.block_lt_of_cell? w _ d1)).trans d1
        have HGV := hid (show (cd.th i)[q2]? = some v by rw [HN2.out]; exact hgv)
        have lq : (q2 : Int) < n2 := by omega
        clear d1 hcv hgv
        go_wp2_with (at_mapUpdate; refine wpList_mi rfl _ _ _ rfl rfl HR.out.mi (by unfold maxLen; omega) rfl rfl (WalkArith.wf_i64 (by omega)) (by decide) ?_; intro w5 hM hG; have HP := hid (HR.out.put hM hG); clear hM hG)
        go_roundw
        case rel => exact ⟨q2 + 1, by omega, by go_num, by rw [← beg2_step HGV.out]; exact HP⟩
        case measure => simp [intOf]; omega
      · obtain rfl : q2 = n2 := by omega
        have HEQ := hid (equal_one a1 q k1 wr.heap.size r1 ((i : Int) + 1) (wr.alloc (.cells #[.int .i64 ((i : Int) + 1)] 3)) (Kd.C_alloc (Kd.C_below HC1'.out (below_step HBw2.out HR.out.below)) _) (blk_cell (blk_new wr _) 0))
        have HR3 := hid (show O1 w2 mb (1 + 4001 * i + 4000) (beg2 cd i (cd.th i).length) wr by
          have := HR.out
          rw [show q2 = (cd.th i).length by rw [HN2.out, nats_len, HL2.out]] at this
          exact this.mono (by rw [HN2.out, nats_len, HL2.out]; omega))
        have HNE := hid (show (r1 == [(i : Int) + 1]) = (cd.nx i == [i + 1]) by rw [HN1.out]; exact nats_eq HB1.out)
        clear HR
        generalize (r1 == [(i : Int) + 1]) = be at *
        have HBx := hid (below_alloc (Below.refl wr.heap.size wr) (.cells #[.int .i64 ((i : Int) + 1)] 3))
        by_cases hl : i + 1 < M
        · have lm : (i : Int) + 1 < M := by omega
          cases be with
          | true =>
            go_wp2_with (go_at_call 34; refine HEQ.out.mono ?_; rintro e w7 ⟨rfl, k7, rfl⟩)
            go_roundw
            case rel => exact ⟨i + 1, by omega, by go_num, by rw [← bgTo_miss (.inl HNE.out.symm)]; exact (HR3.out.step (pw_below_drewN HBx.out k7)).mono (by omega)⟩
            case measure => simp [intOf]; omega
          | false =>
            go_upto_region 25 with (go_at_call 34; refine HEQ.out.mono ?_; rintro e w7 ⟨rfl, k7, rfl⟩)
            have HR4 := hid (HR3.out.step (pw_below_drewN HBx.out k7))
            generalize World.drewN _ _ = w8 at *
            go_wp2_with (at_mapUpdate; refine wpList_mi rfl _ _ _ rfl rfl HR4.out.mi (by unfold maxLen; omega) rfl rfl (WalkArith.wf_i64 (by omega)) (by decide) ?_; intro w5 hM hG; have HP := hid (HR4.out.put hM hG); clear hM hG)
            go_roundw
            case rel => exact ⟨i + 1, by omega, by go_num, by rw [← bgTo_hit HNE.out.symm (by rw [HCN.out]; exact hl)]; exact HP.out.mono (by omega)⟩
            case measure => simp [intOf]; omega
        · have lm : ¬ ((i : Int) + 1 < M) := by omega
          cases be
          all_goals
            go_wp2_with (go_at_call 34; refine HEQ.out.mono ?_; rintro e w7 ⟨rfl, k7, rfl⟩)
            go_roundw
            case rel => exact ⟨i + 1, by omega, by go_num, by rw [← bgTo_miss (.inr (by rw [HCN.out]; exact hl))]; exact (HR3.out.step (pw_below_drewN HBx.out k7)).mono (by omega)⟩
            case measure => simp [intOf]; omega
  · obtain rfl : i = M := by omega
    obtain ⟨wB, rfl⟩ : ∃ x : World, x = wr := ⟨_, rfl⟩
    have HB := hid (show O1 w2 mb (1 + 4001 * i) (bg cd) wB by
      have := HI.out
      rw [← HCN.out] at this
      rw [← HCN.out]
      exact this)
    have HBwB := hid (below_step HBw2.out HB.out.below)
    obtain ⟨mn, hmn⟩ : ∃ m, wB.heap.size = m := ⟨_, rfl⟩
    have HP0 := hid (show O2 cd wB mn 0 (.slice none 0 0) (wB.alloc (.map #[] 0)) from ⟨below_alloc (Below.refl _ _) _, by rw [← numF_zero, ← hmn]; exact MI.made wB, by rw [outC_zero]; exact Kd.R_nil _ _ _ _ _, Nat.le_of_eq hmn⟩)
    clear HI
    go_upto_region 30 with fail
    have HMN := hid hmn
    clear hmn
    go_loopw [16, 120] (fun oV jV wr => ∃ j : Nat, j ≤ i ∧ jV = .int .i64 j ∧ Hid (O2 cd wB mn j oV wr)) (fun _ jV _ => i - (intOf jV).toNat)
    case atStart => exact ⟨0, by omega, rfl, HP0⟩
    obtain ⟨j, hj, rfl, HQ⟩ := hrel
    clear HP0
    by_cases hji : j < i
    · have lj : (j : Int) < i := by omega
      have hlk := ((HB.out.mi.move (HQ.out.below.block mb HB.out.mi.lt)).look (k := (j : Int)) (WalkArith.wf_i64 (by omega)))
      rw [setF_get] at hlk
      by_cases hbg : bg cd j = true
      · rw [if_pos hbg] at hlk
        have HBG := hid hbg
        clear hbg
        obtain ⟨Ao, co, eo⟩ := Kd.R_slice HQ.out.out
        subst eo
        rw [outC_len] at HQ ⊢
        generalize hK : (starts cd j).length = K at *
        have HK := hid hK
        clear hK
        have lK : K ≤ 8192 := by have := starts_len cd j; have := HK.out; omega
        go_upto_region 34 with (at_mapUpdate; refine wpList_mi rfl _ _ _ rfl rfl HQ.out.num (by unfold maxLen; omega) rfl rfl (WalkArith.wf_i64 (by omega)) (WalkArith.wf_i64 (by omega)) ?_; intro w5 hM hG; have HM5 := hid hM; have HG5 := hid hG; clear hM hG)
        have HBL5 := hid (HQ.out.below.grown HG5.out HQ.out.below.size (fun k hk => by injection hk with hk; have := HQ.out.old; omega))
        have HO5 := hid (R_map HQ.out.out HG5.out)
        have HN5 := hid (show MI w5 mn (j + 1) (numF cd (j + 1)) by
          have := HM5.out
          rw [← HK.out] at this
          rwa [numF_hit HBG.out] at this)
        have HOL := hid (show (outC cd j).length = K by rw [outC_len]; exact HK.out)
        clear hlk HM5 HG5 HQ
        go_upto_region 35 with (at_builtin; refine Kd.R_append kB wB.heap.size rfl (.tmp 131) (.tmp 134) 22 45 _ 48 rfl Try.underlying22 infoBk rfl (by decide) (by decide) _ (outC cd j) ⟨(j : Int), 0, [], false⟩ [.int .i64 (j : Int), .int .i64 0, .slice none 0 0, .bool false] (fun k => k ≠ mn) (fun _ => False) rfl rfl (kBM_new _ _ _ _) (fun _ h => h.elim) (fun k hk => by have := HN5.out.lt; omega) HO5.out HBL5.out HBL5.out.size (by rw [HOL.out]; omega) ?_; intro v1 w6 hR1 hB1 hG1 hat1; have HR6 := hid hR1; have HBL6 := hid hB1; have HN6 := hid (HN5.out.move (hG1.block mn HN5.out.lt (fun e => HO5.out.1 mn e.symm rfl))); clear hR1 hB1 hG1 hat1)
        obtain ⟨g, cap, eg, hgb, hgl, cells, hgc⟩ := Kd.R_form HR6.out (by rw [List.length_append]; simp)
        rw [List.length_append, HOL.out] at eg
        simp only [List.length_cons, List.length_nil, Nat.zero_add] at eg
        subst eg
        have HNG := hid (HN6.out.notCells hgc)
        have hx := last_get (outC cd j) ⟨(j : Int), 0, [], false⟩ HOL.out
        obtain ⟨v, hv, e0, e1, e2, e3, ef⟩ := kB_elem HR6.out (b := K) (by omega)
        rw [hx] at e1
        have f1 := ef 1
        have HR7 := hid (show O2 cd wB mn (j + 1) (.slice (some ⟨g, 0, none⟩) (K + 1) cap) (w6.setCell ⟨g, K * 4 + 1, none⟩ (.int .i64 ((j : Int) + 1))) from
          O2.told (i := 0) HBL6.out HN6.out HNG.out hgb (Nat.le_of_eq HMN.out) (kB_to HR6.out (b := K) (by omega) hx ((j : Int) + 1)).1 (last_set _ _ _ HOL.out) (by rw [outC_hit (by rw [HCN.out]; exact hji) HBG.out, show ((j + 1 : Nat) : Int) = (j : Int) + 1 by omega]) rfl)
        clear e0 e2 e3 ef hgc hx hv
        go_wp2_with fail
        generalize World.setCell _ _ _ = w9 at *
        go_roundw
        case rel => exact ⟨j + 1, by omega, by go_num, HR7⟩
        case measure => simp [intOf]; omega
      · have hbg' : bg cd j = false := by simpa using hbg
        rw [if_neg hbg] at hlk
        have HBG := hid hbg'
        have hj0 : 0 < j := Nat.pos_of_ne_zero fun e => by subst e; rw [bg_zero] at hbg'; cases hbg'
        clear hbg hbg'
        have hKp := starts_pos cd hj0
        have HJ0 := hid hj0
        clear hj0
        obtain ⟨g, cap, eg, hgb, hgl, cells, hgc⟩ := Kd.R_form HQ.out.out (by rw [outC_len]; exact hKp)
        subst eg
        have HNG := hid (HQ.out.num.notCells hgc)
        have HOL := hid (outC_len cd j)
        rw [outC_len] at HQ ⊢
        have HEX := hid (outC_miss (c := cd) (by rw [HCN.out]; exact hji) hKp HBG.out)
        generalize hK : (starts cd j).length = K at *
        obtain ⟨K, rfl⟩ : ∃ k', K = k' + 1 := ⟨K - 1, by omega⟩
        have HK := hid hK
        have lK : K + 1 ≤ 8192 := by have := starts_len cd j; have := HK.out; omega
        clear hK hKp
        have hx : (outC cd j).getD K zBk = ⟨(fromB cd K : Int), ((min (toB cd K) j : Nat) : Int), [], false⟩ := by
          have : K < (starts cd j).length := by rw [HK.out]; omega
          simp [outC, List.getD, this]
        obtain ⟨v, hv, e0, e1, e2, e3, ef⟩ := kB_elem HQ.out.out (b := K) (by omega)
        have f1 := ef 1
        have HR7 := hid (show O2 cd wB mn (j + 1) (.slice (some ⟨g, 0, none⟩) (K + 1) cap) (wr.setCell ⟨g, K * 4 + 1, none⟩ (.int .i64 ((j : Int) + 1))) from
          O2.told (i := 0) HQ.out.below ((by rw [numF_miss HBG.out]; exact HQ.out.num.mono (by omega))) HNG.out hgb (Nat.le_of_eq HMN.out) (kB_to HQ.out.out (b := K) (by omega) hx ((j : Int) + 1)).1 rfl (by rw [HEX.out, show ((j + 1 : Nat) : Int) = (j : Int) + 1 by omega]; rfl) rfl)
        clear e0 e2 e3 ef hgc hx hv
        generalize ((outC cd j).getD K zBk).hi = oh at *
        go_wp2_with fail
        generalize World.setCell _ _ _ = w9 at *
        go_roundw
        case rel => exact ⟨j + 1, by omega, by go_num, HR7⟩
        case measure => simp [intOf]; omega
    · obtain rfl : j = i := by omega
      have hsp := starts_pos cd hMp
      obtain ⟨g, cap, eg, hgb, hgl, cells, hgc⟩ := Kd.R_form HQ.out.out (by rw [outC_len]; exact hsp)
      subst eg
      have hmany : (starts cd j).length = many cd := by unfold many; rw [HCN.out]
      rw [outC_len, hmany] at HQ ⊢
      rw [hmany] at hsp
      have hml : many cd ≤ j := by rw [← hmany]; exact starts_len cd j
      have HO3 := hid (show O3 cd wB mn g (many cd) cap j 0 wr from ⟨HQ.out.below, HQ.out.num, by rw [← outC_all, HCN.out]; exact HQ.out.out, HQ.out.old⟩)
      clear HQ hmany hgb hgl hgc
      have HTH := hid (show ∀ x, x < cd.n → (∀ k ∈ cd.nx x, k < cd.n) ∧ ∀ k ∈ cd.th x, k < cd.n by
        intro x hx
        rw [HCD.out, codeOf_n] at hx ⊢
        exact ⟨HMay.out.nx_lt hx, HMay.out.th_lt hx⟩)
      generalize hm : many cd = m at *
      have HM := hid hm
      clear hm
      go_upto_region 38 with fail
      go_loopw [147] (fun bV wr => ∃ b : Nat, b ≤ m ∧ bV = .int .i64 b ∧ Hid (O3 cd wB mn g m cap j b wr)) (fun bV _ => m - (intOf bV).toNat)
      case atStart => exact ⟨0, by omega, rfl, HO3⟩
      obtain ⟨b, hb, rfl, HQ⟩ := hrel
      clear HO3
      by_cases hbm : b < m
      · have HBM := hid (show b < many cd by rw [HM.out]; exact hbm)
        have HTO := hid (to_gt HBM.out)
        rw [HCN.out] at HTO
        have HF := hid (show O4 cd wB mn g m cap j b wr.heap.size 0 (got1 cd b (fromB cd b) 0) (wr.alloc (.map #[] 0)) by rw [← got1_zero]; exact HQ.out.open_)
        obtain ⟨x0, x1⟩ := HF.out.elem HM.out.symm hbm
        have lb : (b : Int) < m := by omega
        obtain ⟨ms, hms⟩ : ∃ ms, wr.heap.size = ms := ⟨_, rfl⟩
        rw [hms] at HF
        obtain ⟨fb, hfb⟩ : ∃ x, x = fromB cd b := ⟨_, rfl⟩
        obtain ⟨tb, htb⟩ : ∃ x, x = toB cd b := ⟨_, rfl⟩
        rw [← hfb] at x0 HTO HF
        rw [← htb] at x1 HTO
        have HFB := hid hfb
        have HTB := hid htb
        clear hfb htb
        have hft := HTO.out
        go_upto_region 42 with fail
        have HMS := hid hms
        clear hms x0 x1
        generalize wr.alloc (.map #[] 0) = w9 at *
        go_loopw [20] (fun xV wr => ∃ x : Nat, fb ≤ x ∧ x ≤ tb ∧ xV = .int .i64 x ∧ Hid (O4 cd wB mn g m cap j b ms ((x - fb) * 2000) (got1 cd b x 0) wr)) (fun xV _ => tb - (intOf xV).toNat)
        case atStart => exact ⟨fb, by omega, by omega, rfl, HF.out.mono (by omega)⟩
        obtain ⟨x, hx1, hx2, rfl, HG⟩ := hrel
        clear HF
        obtain ⟨y0, y1⟩ := HG.out.elem HM.out.symm hbm
        rw [← HTB.out] at y1
        by_cases hxt : x < tb
        · have lx : (x : Int) < tb := by omega
          have lx2 : (x : Int) < j := by omega
          obtain ⟨a2, k2, z2, C2⟩ := kIs_get HC2.out (i := x) (by omega)
          have HN2 := hid (show cd.th x = nats (thrown.getD x []) by rw [HCD.out, codeOf_th])
          obtain ⟨l2, hb2⟩ := HMay.out.thAt (i := x) (by rw [HN.out]; omega)
          rw [HN.out] at hb2
          generalize thrown.getD x [] = r2 at *
          have HB2 := hid hb2
          have HC2' := hid C2
          have z2' := ((below_step HBwB.out HG.out.below).cell (World.block_lt_of_cell? w _ z2)).trans z2
          clear z2 C2 hb2 y0
          generalize hn2 : r2.length = n2 at *
          have HL2 := hid hn2
          clear hn2
          go_upto_region 45 with fail
          clear y1 z2'
          go_loopw [170] (fun qV wr => ∃ q : Nat, q ≤ n2 ∧ qV = .int .i64 q ∧ Hid (O4 cd wB mn g m cap j b ms ((x - fb) * 2000 + q) (got1 cd b x q) wr)) (fun qV _ => n2 - (intOf qV).toNat)
          case atStart => exact ⟨0, by omega, rfl, HG⟩
          obtain ⟨q, hq, rfl, HR⟩ := hrel
          clear HG
          by_cases hqn : q < n2
          · obtain ⟨v, hv, hgv, hcv⟩ := nats_get HB2.out (q := q) (by rw [HL2.out]; exact hqn)
            obtain ⟨ga, oa, eA⟩ := C_plain HC2'.out (by omega) (by decide)
            subst eA
            have d1 := C_scalar (h1 := fun _ => rfl) HC2'.out 0 q (by rw [HL2.out]; exact hqn)
            rw [hcv] at d1
            have d2 := ((below_step HBwB.out HR.out.below).cell (World.block_lt_of_cell? w _ d1)).trans d1
            have HGV := hid (show (cd.th x)[q]? = some v by rw [HN2.out]; exact hgv)
            have hlk := HR.out.look hv (by omega) (bg_thrown (c := cd) (i := x) (by rw [HCN.out]; omega) (List.mem_of_getElem? HGV.out))
            have lnv : Blk.num cd v ≤ 8192 := by have := starts_len cd v; unfold Blk.num; omega
            have lq : (q : Int) < n2 := by omega
            clear d1 hcv hgv
            generalize hnv : Blk.num cd v = nv at *
            have HNV := hid hnv
            clear hnv
            go_wp2_with (at_mapUpdate; refine wpList_mi rfl _ _ _ rfl rfl HR.out.set (by unfold maxLen; omega) rfl rfl (WalkArith.wf_i64 (by omega)) (by decide) ?_; intro w5 hM hG; have HP := hid (HR.out.put hM hG); clear hM hG)
            go_roundw
            case rel => exact ⟨q + 1, by omega, by go_num, by rw [← got1_step HGV.out, HNV.out]; exact HP⟩
            case measure => simp [intOf]; omega
          · obtain rfl : q = n2 := by omega
            have HR2 := hid (show O4 cd wB mn g m cap j b ms ((x + 1 - fb) * 2000) (got1 cd b (x + 1) 0) wr by
              rw [← got1_next (by rw [← HFB.out]; omega), HN2.out, nats_len, HL2.out]
              exact HR.out.mono (by omega))
            clear HR
            go_wp2_with fail
            go_roundw
            case rel => exact ⟨x + 1, by omega, by omega, by go_num, HR2⟩
            case measure => simp [intOf]; omega
        · obtain rfl : x = tb := by omega
          obtain ⟨x, rfl⟩ : ∃ k, x = k + 1 := ⟨x - 1, by omega⟩
          rw [show ((x + 1 : Nat) : Int) = (x : Int) + 1 by omega] at y1 ⊢
          have HG2 := hid (show O4 cd wB mn g m cap j b ms (x * 2000 + 2000 + 0) (got2 cd b 0) wr by
            rw [← got2_zero, ← HTB.out]
            exact HG.out.mono (by omega))
          obtain ⟨a2, k2, z2, C2⟩ := kIs_get HC1.out (i := x) (by omega)
          have HN2 := hid (show cd.nx (toB cd b - 1) = nats (next.getD x []) by rw [← HTB.out, Nat.add_sub_cancel, HCD.out, codeOf_nx])
          obtain ⟨l2, hb2⟩ := HMay.out.nxAt (i := x) (by rw [HN.out]; omega)
          rw [HN.out] at hb2
          generalize next.getD x [] = r2 at *
          have HB2 := hid hb2
          have HC2' := hid C2
          have z2' := ((below_step HBwB.out HG2.out.below).cell (World.block_lt_of_cell? w _ z2)).trans z2
          have lx : (x : Int) < j := by omega
          clear z2 C2 hb2 y0 HG
          generalize hn2 : r2.length = n2 at *
          have HL2 := hid hn2
          clear hn2
          go_upto_region 50 with fail
          clear y1 z2'
          go_loopw [189] (fun qV wr => ∃ q : Nat, q ≤ n2 ∧ qV = .int .i64 q ∧ Hid (O4 cd wB mn g m cap j b ms (x * 2000 + 2000 + q) (got2 cd b q) wr)) (fun qV _ => n2 - (intOf qV).toNat)
          case atStart => exact ⟨0, by omega, rfl, HG2⟩
          obtain ⟨q, hq, rfl, HR⟩ := hrel
          clear HG2
          by_cases hqn : q < n2
          · obtain ⟨v, hv, hgv, hcv⟩ := nats_get HB2.out (q := q) (by rw [HL2.out]; exact hqn)
            obtain ⟨ga, oa, eA⟩ := C_plain HC2'.out (by omega) (by decide)
            subst eA
            have d1 := C_scalar (h1 := fun _ => rfl) HC2'.out 0 q (by rw [HL2.out]; exact hqn)
            rw [hcv] at d1
            have d2 := ((below_step HBwB.out HR.out.below).cell (World.block_lt_of_cell? w _ d1)).trans d1
            have HGV := hid (show (cd.nx (toB cd b - 1))[q]? = some v by rw [HN2.out]; exact hgv)
            have hlk := HR.out.look hv (by omega) (last_bg (c := cd) HBM.out (List.mem_of_getElem? HGV.out) (by rw [HCN.out]; exact hv))
            have lnv : Blk.num cd v ≤ 8192 := by have := starts_len cd v; unfold Blk.num; omega
            have lq : (q : Int) < n2 := by omega
            clear d1 hcv hgv
            generalize hnv : Blk.num cd v = nv at *
            have HNV := hid hnv
            clear hnv
            go_wp2_with (at_mapUpdate; refine wpList_mi rfl _ _ _ rfl rfl HR.out.set (by unfold maxLen; omega) rfl rfl (WalkArith.wf_i64 (by omega)) (by decide) ?_; intro w5 hM hG; have HP := hid (HR.out.put hM hG); clear hM hG)
            go_roundw
            case rel => exact ⟨q + 1, by omega, by go_num, by rw [← got2_step HGV.out, HNV.out]; exact HP⟩
            case measure => simp [intOf]; omega
          · obtain rfl : q = n2 := by omega
            have HR2 := hid (show O4 cd wB mn g m cap j b ms (x * 2000 + 2000 + q) (got2 cd b (cd.nx (toB cd b - 1)).length) wr by
              rw [HN2.out, nats_len, HL2.out]
              exact HR.out)
            clear HR
            have HGK := hid (goes_keys HBM.out HTH.out)
            have HKA := hid (fun W => keys_any (some ms) W)
            have HSO := hid (sortedKeys_any ms _ _ wr HR2.out.set (by omega) (ints (goes cd b)) HGK.out.1 HGK.out.2)
            go_wp2_with (first | (go_at_call 36; refine (HKA.out _).mono ?_; rintro e w7 ⟨rfl, rfl⟩) | (go_at_call 35; refine HSO.out.mono ?_; rintro e w7 ⟨Ak, ck, rfl, hRk, hBk⟩; obtain ⟨⟨uo, hu⟩, hf, hO⟩ := HR2.out.shut HM.out.symm hbm hBk hRk; have HO := hid hO; clear hO hRk hBk))
            generalize World.setCell _ _ _ = w9 at *
            go_roundw
            case rel => exact ⟨b + 1, by omega, by go_num, HO⟩
            case measure => simp [intOf]; omega
      · obtain rfl : b = m := by omega
        have HMay2 := hid (may_outS (cd := cd) (by rw [HM.out]; exact hsp) (by rw [HM.out]; omega) [])
        have HOS := hid (show kB.R 45 wr wB.heap.size (fun _ => True) (.slice (some ⟨g, 0, none⟩) b cap) (outS cd []) by
          rw [← outG_all, HM.out]
          exact Kd.R_mono HQ.out.out (fun _ _ => trivial))
        have HLT := hid (lookThrough_any g 0 cap (outS cd []) wr (Kd.R_reads' HOS.out).2.2 HMay2.out)
        have HTT := hid (Look.look_law (g := gB (outS cd [])) HMay2.out.lt HMay2.out.pos (Nat.le_refl _))
        have hS : Look.at' (gB (outS cd [])) (outS cd []).length 0 ⟨fun _ => 0, [], []⟩ = lookS (outS cd []) := rfl
        rw [hS] at HTT
        clear hS
        have HDL := hid (show ∀ x ∈ (lookS (outS cd [])).done.reverse, x < b by
          intro x hx
          have := HTT.out.lt x (List.mem_reverse.1 hx)
          rwa [outS_len, HM.out] at this)
        rw [outS_len, HM.out] at HLT
        have HBLw := hid HQ.out.below
        have HFIN := hid (show outS cd (lookS (outS cd [])).done.reverse = blocksOf cd from outS_congr (fun x => List.mem_reverse))
        have hDn : (lookS (outS cd [])).done.reverse.length ≤ 8192 := by
          have h1 := nodup_len _ _ HTT.out.once HTT.out.lt
          rw [outS_len, HM.out] at h1
          rw [List.length_reverse]
          omega
        unfold LookPost at HLT
        clear HTT HMay2 HQ
        have hrl : (lookS (outS cd [])).done.length = (lookS (outS cd [])).done.reverse.length := List.length_reverse.symm
        rw [hrl] at HLT
        clear hrl
        generalize (lookS (outS cd [])).done.reverse = D at *
        generalize hn : D.length = n at *
        have HN9 := hid hn
        clear hn
        have q0 := field0
        go_upto_region 57 with (go_at_call 25; refine HLT.out.mono ?_; rintro e wL ⟨Aq, cq, Ar, cr, bk, rfl, p1, p2, p3, p4, p5, p6, gq, rfl, p8⟩; have P1 := hid p1; have P6 := hid p6; have P8 := hid p8; clear p1 p2 p3 p4 p5 p6 p8)
        clear HLT
        have HO5 := hid (show O5 cd wB wL g b cap [] wL from ⟨below_step HBLw.out P6.out |> fun h => h, Kd.R_below HOS.out P6.out, fun _ _ _ => rfl⟩)
        have HNG := hid (show gq ≠ g from fun e => by have := Kd.R_lt HOS.out g rfl; have := P8.out; omega)
        go_loopw [210] (fun qV wr => ∃ q : Nat, q ≤ n ∧ qV = .int .i64 q ∧ Hid (O5 cd wB wL g b cap (D.take q) wr)) (fun qV _ => n - (intOf qV).toNat)
        case atStart => exact ⟨0, by omega, rfl, HO5⟩
        obtain ⟨q, hq, rfl, HR⟩ := hrel
        clear HO5
        by_cases hqn : q < n
        · obtain ⟨v, hv⟩ : ∃ v, D[q]? = some v := ⟨_, List.getElem?_eq_getElem (by rw [HN9.out]; exact hqn)⟩
          have hvb := HDL.out v (List.mem_of_getElem? hv)
          have d1 := C_scalar (h1 := fun _ => rfl) P1.out 0 q (by rw [ints_len, HN9.out]; exact hqn)
          rw [show (ints D).getD q 0 = (v : Int) by simp [ints, List.getD, hv], Nat.zero_add] at d1
          have d2 := (cell_same (HR.out.same gq HNG.out (World.block_lt_of_cell? wL _ d1)) q).trans d1
          obtain ⟨⟨uo, hu⟩, hf, hO⟩ := HR.out.put HM.out.symm hvb
          have HO := hid hO
          have HTK := hid (show D.take (q + 1) = D.take q ++ [v] by rw [List.take_add_one, hv]; rfl)
          have lq : (q : Int) < n := by omega
          have lv : (v : Int) < b := by omega
          clear d1 hv hO
          go_wp2_with fail
          generalize World.setCell _ _ _ = w9 at *
          go_roundw
          case rel => exact ⟨q + 1, by omega, by go_num, by rw [HTK.out]; exact HO⟩
          case measure => simp [intOf]; omega
        · obtain rfl : q = n := by omega
          go_wp2_with fail
          go_ret2
          refine ⟨below_step HBwB.out HR.out.below, .inr ⟨HMay.out, _, _, by rw [← HCD.out, HM.out]; rfl, ?_⟩⟩
          have h1 := HR.out.out
          rw [List.take_of_length_le (by rw [HN9.out]; exact Nat.le_refl _), HFIN.out] at h1
          rw [← HCD.out, HM.out]
          have h2 := Kd.R_reads' h1
          have h3 := h2.2.2
          rw [← h2.1] at h3
          exact h3
end Go.Proofs.Ythjjkpkohhmgcaa
