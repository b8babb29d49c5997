/- Blocks: works. -/
import Derived.Test.YthjjkpkohhmgcaaYb
namespace Go.Proofs.Ythjjkpkohhmgcaa
open Go.RowKit Go.Proofs.YthjjkpkohhmgcaaW.PrintWords Go.Proofs.Ythjjkpkohhmgcaa.Blk Go.Proofs.Ythjjkpkohhmgcaa.Dom

abbrev wG : List (List Int) := [[1], [2, 3], [1, 3], []]
def xObjs (B : Nat) : List Obj := [.cells #[.int .i64 0, .int .i64 1, .int .i64 2, .int .i64 4] 3, .cells #[.int .i64 1, .int .i64 2, .int .i64 4, .int .i64 5] 3, .cells #[.int .i64 1] 3, .cells #[.int .i64 2, .int .i64 3] 3, .cells #[.int .i64 1, .int .i64 3] 3,
  .cells #[.slice (some ⟨B + 1 + 1, 0, none⟩) 1 1, .slice (some ⟨B + 1 + 1 + 1, 0, none⟩) 2 2, .slice (some ⟨B + 1 + 1 + 1 + 1, 0, none⟩) 2 2, .slice none 0 0] 27]
/-- What the blocks are held against. -/
structure WX (B : Nat) (w : World) : Prop where
  lo : ∀ k, k < 4 → w.cell? ⟨B, k, none⟩ = some (.int .i64 (wL.getD k zBk).lo)
  hi : ∀ k, k < 4 → w.cell? ⟨B + 1, k, none⟩ = some (.int .i64 (wL.getD k zBk).hi)
  goes : ∀ k, k < 4 → ∃ a c, w.cell? ⟨B + 1 + 1 + 1 + 1 + 1, k, none⟩ = some (.slice a (wL.getD k zBk).goes.length c) ∧ kI.C w a (wL.getD k zBk).goes.length (wL.getD k zBk).goes
theorem wx_made (w : World) : WX w.heap.size ((xObjs w.heap.size).foldl World.alloc w) := by
  have hg := fun i hi => allocs_get (xObjs w.heap.size) w i hi
  generalize (xObjs w.heap.size).foldl World.alloc w = W at *
  have c0 : kI.C W (some ⟨w.heap.size + 1 + 1, 0, none⟩) 1 [1] := C_ints (xs := [1]) (hg 2 (by simp [xObjs])) (by decide)
  have c1 : kI.C W (some ⟨w.heap.size + 1 + 1 + 1, 0, none⟩) 2 [2, 3] := C_ints (xs := [2, 3]) (hg 3 (by simp [xObjs])) (by decide)
  have c2 : kI.C W (some ⟨w.heap.size + 1 + 1 + 1 + 1, 0, none⟩) 2 [1, 3] := C_ints (xs := [1, 3]) (hg 4 (by simp [xObjs])) (by decide)
  have h0 : W.heap[w.heap.size]? = some (.cells #[.int .i64 0, .int .i64 1, .int .i64 2, .int .i64 4] 3 (0, 0)) := hg 0 (by simp [xObjs])
  have h1 : W.heap[w.heap.size + 1]? = some (.cells #[.int .i64 1, .int .i64 2, .int .i64 4, .int .i64 5] 3 (0, 0)) := hg 1 (by simp [xObjs])
  have h5 : W.heap[w.heap.size + 1 + 1 + 1 + 1 + 1]? = some (.cells #[.slice (some ⟨w.heap.size + 1 + 1, 0, none⟩) 1 1, .slice (some ⟨w.heap.size + 1 + 1 + 1, 0, none⟩) 2 2, .slice (some ⟨w.heap.size + 1 + 1 + 1 + 1, 0, none⟩) 2 2, .slice none 0 0] 27 (0, 0)) := hg 5 (by simp [xObjs])
  refine ⟨fun k hk => ?_, fun k hk => ?_, fun k hk => ?_⟩
  · rw [blk_cell h0]
    match k, hk with
    | 0, _ => rfl
    | 1, _ => rfl
    | 2, _ => rfl
    | 3, _ => rfl
  · rw [blk_cell h1]
    match k, hk with
    | 0, _ => rfl
    | 1, _ => rfl
    | 2, _ => rfl
    | 3, _ => rfl
  · rw [blk_cell h5]
    match k, hk with
    | 0, _ => exact ⟨_, _, rfl, c0⟩
    | 1, _ => exact ⟨_, _, rfl, c1⟩
    | 2, _ => exact ⟨_, _, rfl, c2⟩
    | 3, _ => exact ⟨_, _, rfl, C_zero _ _⟩
theorem wl_seen (k : Nat) (hk : k < 4) : (wL.getD k zBk).seen = true := by
  match k, hk with
  | 0, _ => rfl
  | 1, _ => rfl
  | 2, _ => rfl
  | 3, _ => rfl
theorem wl_len (k : Nat) (hk : k < 4) : (wL.getD k zBk).goes.length ≤ 1000000 := by
  match k, hk with
  | 0, _ => decide
  | 1, _ => decide
  | 2, _ => decide
  | 3, _ => decide
set_option maxRecDepth 100000 in
set_option maxHeartbeats 8000000 in
theorem works_any (w : World) : Calls Try.prog 9 #[] w fun e w' => e = .returned (.bool true) ∧ Below w.heap.size w w' := by
  have HOF := hid (w_of w)
  have hch : (wObjs w.heap.size).foldl World.alloc w = (((((((w.alloc (.cells #[.int .i64 1] 3)).alloc (.cells #[.int .i64 2, .int .i64 4] 3)).alloc (.cells #[.int .i64 3] 3)).alloc (.cells #[.int .i64 1] 3)).alloc (.cells #[] 3)).alloc (.cells #[.slice (some ⟨w.heap.size, 0, none⟩) 1 1, .slice (some ⟨w.heap.size + 1, 0, none⟩) 2 2, .slice (some ⟨w.heap.size + 1 + 1, 0, none⟩) 1 1, .slice (some ⟨w.heap.size + 1 + 1 + 1, 0, none⟩) 1 1, .slice (some ⟨w.heap.size + 1 + 1 + 1 + 1, 0, none⟩) 0 0] 27)).alloc (.cells #[.int .i64 4] 3)).alloc (.cells #[.slice none 0 0, .slice none 0 0, .slice (some ⟨w.heap.size + 1 + 1 + 1 + 1 + 1 + 1, 0, none⟩) 1 1, .slice none 0 0, .slice none 0 0] 27) := rfl
  rw [hch] at HOF
  clear hch
  go_enter Try.func9, Try.ntmps9
  go_upto_region 2 with (go_at_call 20; refine HOF.out.mono ?_; rintro e w1 ⟨A, c, rfl, hC, hB⟩; have HC := hid hC; have HB := hid hB; clear hC hB)
  obtain ⟨lb, lo, eA⟩ := C_plain HC.out (by decide) (by decide)
  subst eA
  clear HOF
  go_upto_region 6 with fail
  have hX := wx_made w1
  have hXB := allocs_below (xObjs w1.heap.size) w1
  generalize hW : World.alloc (World.alloc _ _) _ = w2
  have hW2 : (xObjs w1.heap.size).foldl World.alloc w1 = w2 := hW
  rw [hW2] at hX hXB
  have HX := hid hX
  have HB2 := hid (below_step HB.out hXB)
  have HC2 := hid (Kd.C_below HC.out hXB)
  clear hW hW2 hX hXB HB HC
  generalize w1.heap.size = B at *
  go_upto_region 7 with fail
  go_loopw [6] (fun iV wr => ∃ k : Nat, k ≤ 4 ∧ iV = .int .i64 k ∧ Hid (Below w2.heap.size w2 wr)) (fun iV _ => 4 - (intOf iV).toNat)
  case atStart => exact ⟨0, by omega, rfl, Below.refl _ _⟩
  obtain ⟨k, hk, rfl, HR⟩ := hrel
  by_cases hk4 : k < 4
  · obtain ⟨a1, n1, x0, x1, x2, x3, _, C1⟩ := kB_get (Kd.C_below HC2.out HR.out) hk4
    obtain ⟨a2, n2, y2, C2⟩ := HX.out.goes k hk4
    have y0 := (HR.out.cell (World.block_lt_of_cell? w2 _ (HX.out.lo k hk4))).trans (HX.out.lo k hk4)
    have y1 := (HR.out.cell (World.block_lt_of_cell? w2 _ (HX.out.hi k hk4))).trans (HX.out.hi k hk4)
    have y2' := (HR.out.cell (World.block_lt_of_cell? w2 _ y2)).trans y2
    have C2' := Kd.C_below C2 HR.out
    rw [wl_seen k hk4] at x3
    have HEQ := hid (fun (W : World) (hW : Below wr.heap.size wr W) => eqInts_any a1 a2 n1 n2 _ _ W (Kd.C_below C1 hW) (Kd.C_below C2' hW) (wl_len k hk4) (wl_len k hk4))
    simp only [beq_self_eq_true] at HEQ
    have lk : (k : Int) < 4 := by omega
    clear C1 C2 C2' y2
    generalize (wL.getD k zBk).goes = gl at *
    generalize gl.length = gn at *
    generalize (wL.getD k zBk).lo = F at *
    generalize (wL.getD k zBk).hi = T at *
    have x0 := ov_cell x0
    have x1 := ov_cell x1
    have x2 := ov_cell x2
    have x3 := ov_cell x3
    have y0 := ov_cell y0
    have y1 := ov_cell y1
    have y2' := ov_cell y2'
    go_upto_region 9 with fail
    refine wp_region_ov (w0 := wr) (by kernel_rfl) (by kernel_rfl) (Below.refl _ _) ?_
    repeat (first | go_big_quiet_skip | (go_big_quiet_want; go_big_quiet_op; first | go_big_quiet_on | (apply Exists.intro; refine ⟨fun WW => ?_, ?_⟩; (go_at_call 18; exact calls_ov (HEQ.out _ (ov_below _ _))); go_big_quiet_on)))
    refine wpQuiet_nil ?_
    rintro _ ⟨WQ, rfl⟩
    have HY := hid (HR.out.trans ((ov_below wr WQ).mono HR.out.size))
    clear x0 x1 x2 x3 y0 y1 y2'
    go_wp2_with fail
    go_roundw
    case rel => exact ⟨k + 1, by omega, by go_num, HY⟩
    case measure => simp [intOf]; omega
  · obtain rfl : k = 4 := by omega
    have HO := hid (fun (W : World) (hW : Below w2.heap.size w2 W) => w_order (some ⟨lb, lo, none⟩) c W (Kd.C_below HC2.out hW))
    have HK := hid (fun (W : World) (hW : Below w2.heap.size w2 W) => w_backs (some ⟨lb, lo, none⟩) c W (Kd.C_below HC2.out hW))
    have HA := hid (fun (W : World) (hW : Below w2.heap.size w2 W) => w_above (some ⟨lb, lo, none⟩) c W (Kd.C_below HC2.out hW))
    have HB3 := hid (below_weaken HB2.out HB2.out.size HR.out)
    clear HX
    go_upto_region 12 with (go_at_call 12; refine (HO.out _ HR.out).mono ?_; rintro e w4 ⟨A1, c1, rfl, hC, hB⟩; have H1 := hid hC; have HR4 := hid (below_weaken HR.out HR.out.size hB); clear hC hB)
    go_upto_region 13 with (go_at_call 14; refine (HK.out _ HR4.out).mono ?_; rintro e w5 ⟨A2, c2, rfl, hC, hB⟩; have H2 := hid hC; have HB5 := hid hB; have HR5 := hid (below_weaken HR4.out HR4.out.size hB); clear hC hB)
    go_upto_region 14 with (go_at_call 16; refine (HA.out _ HR5.out).mono ?_; rintro e w6 ⟨g3, c3, rfl, hC, hB⟩; have H3 := hid hC; have HB6 := hid hB; have HR6 := hid (below_weaken HR5.out HR5.out.size hB); clear hC hB)
    have H1' := hid (Kd.C_below (Kd.C_below H1.out HB5.out) HB6.out)
    have H2' := hid (Kd.C_below H2.out HB6.out)
    clear HO HK HA H1 H2
    obtain ⟨b2, o2, eA⟩ := C_plain H2'.out (by decide) (by decide)
    subst eA
    have HEQ := hid (show ∀ (A : Option Addr) (n b : Nat) (xs : List Int), ((A = A1 ∧ n = c1 ∧ xs = [0, 1, 2, 3]) ∨ (A = some ⟨g3, 0, none⟩ ∧ n = c3 ∧ xs = [-1, 0, 1, 1])) → ∀ W : World, Below w6.heap.size w6 W → kI.C W (some ⟨b, 0, none⟩) 4 xs → Calls Try.prog 18 #[.slice A 4 n, .slice (some ⟨b, 0, none⟩) 4 4] W fun e w' => e = .returned (.bool true) ∧ Below W.heap.size W w' from by
      rintro A n b xs (⟨rfl, rfl, rfl⟩ | ⟨rfl, rfl, rfl⟩) W hW hC
      · exact eqInts_any A (some ⟨b, 0, none⟩) n 4 [0, 1, 2, 3] [0, 1, 2, 3] W (Kd.C_below H1'.out hW) hC (by decide) (by decide)
      · exact eqInts_any (some ⟨g3, 0, none⟩) (some ⟨b, 0, none⟩) n 4 [-1, 0, 1, 1] [-1, 0, 1, 1] W (Kd.C_below H3.out hW) hC (by decide) (by decide))
    have HX0 := hid (fun (W : World) (hW : Below w6.heap.size w6 W) => (show W.cell? ⟨b2, o2, none⟩ = some (.int .i64 2) ∧ W.cell? ⟨b2, o2 + 1, none⟩ = some (.int .i64 1) by
      obtain ⟨ad, cc, e, _, hK, hc0⟩ := Kd.C_get (Kd.C_below H2'.out hW) (0, 0) 0 (by decide) (by decide)
      cases e
      have hcc := kW_open hK
      subst hcc
      have e0 := hc0 0 _ rfl
      have e1 := hc0 1 _ rfl
      rw [add_off] at e0 e1
      exact ⟨e0, e1⟩))
    have hway := fun W => run_eql_way W 2 1 2 1
    have HRW := hid (below_weaken HB2.out HB2.out.size HR6.out)
    clear H1' H2' H3 HR6
    go_wp2_with (go_at_call 18; refine (HEQ.out _ _ _ _ (by first | exact .inl ⟨rfl, rfl, rfl⟩ | exact .inr ⟨rfl, rfl, rfl⟩) _ (by first | exact below_alloc (Below.refl w6.heap.size w6) _ | exact HR7.out.alloc HR7.out.size _) (by first | exact C_ints (xs := [0, 1, 2, 3]) (blk_new _ _) (by decide) | exact C_ints (xs := [-1, 0, 1, 1]) (blk_new _ _) (by decide))).mono ?_; rintro e w7 ⟨rfl, hB⟩; have HR7 := hid (below_weaken (show Below w6.heap.size w6 _ by first | exact HR7.out.alloc HR7.out.size _ | exact below_alloc (Below.refl w6.heap.size w6) _) (by first | (rw [World.size_alloc]; have := HR7.out.size; omega) | (rw [World.size_alloc]; omega)) hB); clear hB; obtain ⟨z0, z1⟩ := HX0.out _ HR7.out)
    go_ret
    exact ⟨rfl, below_weaken HRW.out HRW.out.size HR7.out⟩
end Go.Proofs.Ythjjkpkohhmgcaa
