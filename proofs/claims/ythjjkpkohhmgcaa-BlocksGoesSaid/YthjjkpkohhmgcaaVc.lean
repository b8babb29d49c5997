/- Blocks: the function that looks through. -/
import Derived.Test.YthjjkpkohhmgcaaVb
import Derived.Laws.EntriesVeiled
namespace Go.Proofs.Ythjjkpkohhmgcaa
open Go.RowKit Go.Proofs.YthjjkpkohhmgcaaW.PrintWords

theorem infoWay : (Try.prog.info? 36).map (fun i => (i.zero, i.size, i.bytes)) = some (some (.agg #[.int .i64 0, .int .i64 0]), 2, 16) := by kernel_rfl
theorem add_off (b off k : Nat) : (⟨b, off, none⟩ : Addr).add k = ⟨b, off + k, none⟩ := by
  unfold Addr.add
  split
  · have : k = 0 := by omega
    subst this; rfl
  · simp
theorem kB_get {w : World} {lb lo n : Nat} {L : List Bk} (h : kB.C w (some ⟨lb, lo, none⟩) n L) {b : Nat} (hb : b < n) : ∃ A c, w.cell? ⟨lb, lo + b * 4, none⟩ = some (.int .i64 (L.getD b zBk).lo) ∧ w.cell? ⟨lb, lo + b * 4 + 1, none⟩ = some (.int .i64 (L.getD b zBk).hi) ∧ w.cell? ⟨lb, lo + b * 4 + 2, none⟩ = some (.slice A (L.getD b zBk).goes.length c) ∧
    w.cell? ⟨lb, lo + b * 4 + 3, none⟩ = some (.bool (L.getD b zBk).seen) ∧ (L.getD b zBk).goes.length ≤ c ∧ kI.C w A (L.getD b zBk).goes.length (L.getD b zBk).goes := by
  obtain ⟨ad, cc, e, _, hK, hc0⟩ := Kd.C_get h zBk (b : Int) (by omega) (by omega)
  cases e
  rw [Int.toNat_natCast] at hK hc0
  obtain ⟨A, c, rfl, h1, h2⟩ := kB_open hK
  refine ⟨A, c, ?_, ?_, ?_, ?_, h1, h2⟩
  · have := hc0 0 _ rfl; rw [add_off] at this; exact this
  · have := hc0 1 _ rfl; rw [add_off] at this; exact this
  · have := hc0 2 _ rfl; rw [add_off] at this; exact this
  · have := hc0 3 _ rfl; rw [add_off] at this; exact this
def LookAll (w0 : World) (L : List Bk) (lb lo c n ps pl po pa ss d : Nat) : Prop :=
  ∀ (b : Nat) (s : Look.Lk) (w : World), b < n → s.st b = 0 → Look.fresh n s ≤ d → Look.Fine n 20000 s → VW w0 (some ⟨lb, lo, none⟩) c n ps pl po pa ss s w →
    Calls Try.prog 37 #[.int .i64 b, .pointer (some ⟨ps, 0, none⟩), .pointer (some ⟨pl, 0, none⟩), .pointer (some ⟨po, 0, none⟩), .pointer (some ⟨pa, 0, none⟩)] w (fun e w' => e = .returned (.tuple #[]) ∧ VW w0 (some ⟨lb, lo, none⟩) c n ps pl po pa ss (Look.at' (gB L) d b s) w')
set_option maxRecDepth 100000 in
set_option maxHeartbeats 8000000 in
theorem look_step (w0 : World) (L : List Bk) (lb lo c n ps pl po pa ss d : Nat) (hL : kB.C w0 (some ⟨lb, lo, none⟩) n L) (hM : May 20000 L) (ih : LookAll w0 L lb lo c n ps pl po pa ss d) : LookAll w0 L lb lo c n ps pl po pa ss (d + 1) := by
  intro b s w hb h0 hf hFine hV
  obtain rfl : L.length = n := hL.1
  have IH := hid ih
  have HM := hid hM
  have hnb := hM.few
  have hN20 := (hM.at hb).1
  have HF := hid (fun q hq => hFine.mid hM.lt hM.len hb h0 hf (q := q) hq)
  have HE := hid (Look.at_mid (g := gB L) d b s)
  have hgl : (gB L b).length = (L.getD b zBk).goes.length := by unfold gB; rw [List.length_map]
  obtain ⟨gA, gc, _, _, d1, _, hgc, hG⟩ := kB_get hL hb
  have HX := hid (fun W (hB : Below w0.heap.size w0 W) => (hB.cell (World.block_lt_of_cell? w0 _ d1)).trans d1)
  have HG := hid hG
  have HV := hid hV
  have lt0 : (b : Int) < L.length := by omega
  have c1 := blk_cell hV.ks 0
  have c2 := hV.stAt hb
  have c3 := blk_frozen hV.st b
  have H1 := hid (show VW w0 (some ⟨lb, lo, none⟩) c L.length ps pl po pa ss (Look.opened s b) (w.setCell ⟨ss, b, none⟩ (.int .i64 1)) from hV.mark b 1)
  clear hV hL hM ih hFine hf h0 d1 hG
  go_enter Try.func37, Try.ntmps37
  go_upto_region 1 with fail
  generalize World.setCell _ _ _ = w2 at *
  have e1 := blk_cell H1.out.kl 0
  have e2 := HX.out w2 H1.out.below
  clear c1 c2 c3 HX HV
  generalize hN : (L.getD b zBk).goes.length = N at *
  have HN := hid hN
  clear hN
  go_upto_region 2 with fail
  clear e1 e2
  go_loopw [7, 17] (fun tV iV wr => ∃ q : Nat, q ≤ N ∧ iV = .int .i64 q ∧ Hid (VW w0 (some ⟨lb, lo, none⟩) c L.length ps pl po pa ss (Look.mid (gB L) d b q s) wr)) (fun _ iV _ => N - (intOf iV).toNat)
  case atStart => exact ⟨0, by omega, rfl, H1⟩
  obtain ⟨q, hq, rfl, HW⟩ := hrel
  obtain ⟨m1, m2, m3, m4, m5⟩ := HF.out q (by rw [hgl]; exact hq)
  by_cases hqN : q < N
  · obtain ⟨v, hv, hgv, hcv⟩ := HM.out.to hb (q := q) (by rw [HN.out]; exact hqN)
    obtain ⟨gb, go, rfl⟩ := C_plain HG.out (by omega) (by decide)
    have d1 := C_scalar (h1 := fun _ => rfl) HG.out 0 q (by rw [HN.out]; exact hqN)
    rw [hcv] at d1
    have d2 := (HW.out.below.cell (World.block_lt_of_cell? w0 _ d1)).trans d1
    have c1 := blk_cell HW.out.ks 0
    have c2 := HW.out.stAt hv
    have lv : (v : Int) < L.length := by omega
    have HS := hid (Look.mid_succ (d := d) (s := s) hgv)
    have HM4 := hid (m4 (by rw [hgl]; exact hqN))
    clear d1 hcv hgv m4
    have h2 := m1.two v
    generalize hmq : Look.mid (gB L) d b q s = t at *
    clear hmq
    rcases Nat.lt_trichotomy (t.st v) 1 with hs | hs | hs
    · have hs0 : t.st v = 0 := by omega
      rw [hs0] at c2
      have HIH := hid (IH.out v t wr hv hs0 m2 m1 HW.out)
      have HT := hid (show Look.turn (Look.at' (gB L) d) b t v = Look.at' (gB L) d v t by unfold Look.turn; rw [if_neg (by omega), if_pos hs0])
      have d3 := blk_cell HW.out.ka 0
      clear hs hs0 h2
      go_wp2_with (go_at_call 37; refine HIH.out.mono ?_; rintro e w3 ⟨rfl, hW3⟩; have HW3 := hid hW3; clear hW3)
      go_roundw
      case rel => exact ⟨q + 1, by omega, by go_num, by rw [HS.out, HT.out]; exact HW3⟩
      case measure => simp [intOf]; omega
    · rw [hs] at c2
      have HT := hid (show Look.turn (Look.at' (gB L) d) b t v = ⟨t.st, t.done, t.back ++ [(b, v)]⟩ by unfold Look.turn; rw [if_pos hs])
      obtain ⟨A1, n1, A2, n2, k1, r1, r2⟩ := HW.out.out
      have HR := hid r2
      have HK := hid k1
      have x1 := blk_cell k1 1
      have x2 := blk_frozen k1 1
      clear hs h2 k1 r1 r2
      go_wp2_with (at_builtin; refine Kd.R_append kW w0.heap.size rfl (.tmp 28) (.tmp 32) 32 36 _ 16 rfl Try.underlying32 infoWay rfl (by decide) (by decide) _ (ways t.back) ((b : Int), (v : Int)) [.int .i64 (b : Int), .int .i64 (v : Int)] (fun _ => True) (fun _ => False) rfl rfl ⟨[_], [_], rfl, rfl, rfl⟩ (fun _ h => h.elim) (fun _ _ => trivial) HR.out HW.out.below HW.out.below.size (by rw [ways_len]; have := HM4.out; omega) ?_; intro v1 w1 hR1 hB1 hG1 _; obtain ⟨k2, hV2⟩ := HW.out.led HR.out HK.out hR1 hB1 hG1; have H2 := hid hV2; clear hV2; obtain ⟨A5, n5, c5, rfl⟩ := R_sl hR1; have e1 := blk_cell k2 1; have e2 := blk_frozen k2 1; clear hR1 hB1 hG1 k2)
      go_roundw
      case rel => exact ⟨q + 1, by omega, by go_num, by rw [HS.out, HT.out]; exact H2⟩
      case measure => simp [intOf]; omega
    · have hs2 : t.st v = 2 := by omega
      rw [hs2] at c2
      have HT := hid (show Look.turn (Look.at' (gB L) d) b t v = t by unfold Look.turn; rw [if_neg (by omega), if_neg (by omega)])
      clear hs hs2 h2
      go_wp2_with fail
      go_roundw
      case rel => exact ⟨q + 1, by omega, by go_num, by rw [HS.out, HT.out]; exact HW⟩
      case measure => simp [intOf]; omega
  · obtain rfl : q = N := by omega
    have c1 := blk_cell HW.out.ks 0
    have c2 := HW.out.stAt hb
    have c3 := blk_frozen HW.out.st b
    have HE2 := hid (show Look.at' (gB L) (d + 1) b s = Look.closed (Look.mid (gB L) d b q s) b by rw [HE.out, hgl])
    clear m1 m2 m4
    generalize hmq : Look.mid (gB L) d b q s = t at *
    clear hmq
    have H3 := hid (show VW w0 (some ⟨lb, lo, none⟩) c L.length ps pl po pa ss ⟨Look.upd t.st b 2, t.done, t.back⟩ (wr.setCell ⟨ss, b, none⟩ (.int .i64 2)) from HW.out.mark b 2)
    go_upto_region 11 with fail
    generalize World.setCell _ _ _ = w4 at *
    clear c1 c2 c3 HW
    obtain ⟨A1, n1, A2, n2, k1, r1, r2⟩ := H3.out.out
    have HR := hid r1
    have HK := hid k1
    have x1 := blk_cell k1 0
    have x2 := blk_frozen k1 0
    clear k1 r1 r2
    go_wp2_with (at_builtin; refine Kd.R_append kI w0.heap.size rfl (.tmp 45) (.tmp 47) 27 3 _ 8 rfl Try.underlying27 infoInt rfl (by decide) (by decide) _ (ints t.done) (b : Int) [.int .i64 (b : Int)] (fun k => k ≠ ss) (fun _ => False) rfl rfl rfl (fun _ h => h.elim) (fun k hk => by have := blk_lt H3.out.st; omega) HR.out H3.out.below H3.out.below.size (by rw [ints_len]; omega) ?_; intro v1 w1 hR1 hB1 hG1 _; obtain ⟨k2, hV2⟩ := H3.out.did (b := b) HR.out HK.out hR1 hB1 hG1; have H2 := hid hV2; clear hV2; obtain ⟨A5, n5, c5, rfl⟩ := R_sl hR1; have e1 := blk_cell k2 0; have e2 := blk_frozen k2 0; clear hR1 hB1 hG1 k2)
    go_end0
    exact ⟨rfl, by rw [HE2.out]; exact H2.out⟩
theorem look_all (w0 : World) (L : List Bk) (lb lo c n ps pl po pa ss : Nat) (hL : kB.C w0 (some ⟨lb, lo, none⟩) n L) (hM : May 20000 L) (d : Nat) : LookAll w0 L lb lo c n ps pl po pa ss d := by
  induction d with
  | zero =>
    intro b s w hb h0 hf
    have := Look.open_fresh (n := n) hb h0
    omega
  | succ d ih => exact look_step w0 L lb lo c n ps pl po pa ss d hL hM ih
end Go.Proofs.Ythjjkpkohhmgcaa
