/- Blocks: opening blocks and lists of lists; which blocks one comes to. -/
import Derived.Test.YthjjkpkohhmgcaaYc
import Derived.Test.YthjjkpkohhmgcaaPj
import Derived.Test.YthjjkpkohhmgcaaRows
import Derived.ProofKit
import Derived.OpenShut
import Derived.SizedLaws
import Derived.Carry
import Derived.ChangeOld
namespace Go.Proofs.Ythjjkpkohhmgcaa
open Go.RowKit Go.Proofs.YthjjkpkohhmgcaaW.PrintWords Go.Proofs.Ythjjkpkohhmgcaa.Op Go.Proofs.Ythjjkpkohhmgcaa.Dom Go.WideShapes

theorem own : ownKnob Try.prog.godebug = none := by kernel_rfl
theorem laidOut : laidOutB Try.prog = true := by kernel_rfl
def gBk (b : Bk) : Prop := b.goes.length * Try.prog.bytesOf 3 ≤ reachBytes
theorem opnBk : Opn Try.prog kB 45 gBk :=
  (opn_iso (opn_struct Try.underlying45 (by kernel_rfl) (by kernel_rfl) (by kernel_rfl) (opnS_cons (opn_int Try.underlying3) (opnS_cons (opn_int Try.underlying3) (opnS_cons (opn_slice Try.underlying27 (by kernel_rfl) (opn_int Try.underlying3)) (opnS_one (opn_bool Try.underlying4)))))) (fun b : Bk => (b.lo, b.hi, b.goes, b.seen)) (fun p => ⟨p.1, p.2.1, p.2.2.1, p.2.2.2⟩) (fun _ => rfl)).mono (fun _ h => h.2.2.1.1)
def gBks (l : List Bk) : Prop := l.length * Try.prog.bytesOf 45 ≤ reachBytes ∧ ∀ b ∈ l, gBk b
theorem opnBks : Opn Try.prog (Kd.slice 45 kB) 22 gBks := opn_slice Try.underlying22 (by kernel_rfl) opnBk
def gNs (l : List Int) : Prop := l.length * Try.prog.bytesOf 3 ≤ reachBytes ∧ ∀ k ∈ l, (Lit.int .i64 k).wf = true
def gNss (l : List (List Int)) : Prop := l.length * Try.prog.bytesOf 27 ≤ reachBytes ∧ ∀ b ∈ l, gNs b
theorem opnNss : Opn Try.prog (Kd.slice 27 kIs) 40 gNss := opn_slice Try.underlying40 (by kernel_rfl) (opn_slice Try.underlying27 (by kernel_rfl) (opn_int Try.underlying3))
set_option maxRecDepth 100000 in
theorem bks_len {l : List Bk} (h : gBks l) : l.length * 48 ≤ 140737488355328 := by
  have h1 : l.length * 48 ≤ reachBytes := h.1
  have : reachBytes = 140737488351232 := rfl
  omega
set_option maxRecDepth 100000 in
theorem nss_len {l : List (List Int)} (h : gNss l) : l.length * 24 ≤ 140737488355328 := by
  have h1 : l.length * 24 ≤ reachBytes := h.1
  have : reachBytes = 140737488351232 := rfl
  omega
section
variable {H : Type} {enc : TypeId × Value → H} {W : World} {v : Value} {d : DataW H} {p : List MemPlace} {r : Reach} {b : Nat}
set_option maxRecDepth 100000 in
theorem openBks (hv : Value.okWide Try.prog W r b 22 v) (h : DataW.Trod enc Try.prog W 0 (fun _ => true) true 22 v d p) (hw : ∀ n ∈ DataW.weights Try.prog 22 d, n ≤ reachBytes) : ∃ A l c, v = .slice A l.length c ∧ l.length ≤ c ∧ Kd.C kB W A l.length l ∧ gBks l :=
  open_slice Try.underlying22 opnBks hv h hw
set_option maxRecDepth 100000 in
theorem openNss (hv : Value.okWide Try.prog W r b 40 v) (h : DataW.Trod enc Try.prog W 0 (fun _ => true) true 40 v d p) (hw : ∀ n ∈ DataW.weights Try.prog 40 d, n ≤ reachBytes) : ∃ A l c, v = .slice A l.length c ∧ l.length ≤ c ∧ Kd.C kIs W A l.length l ∧ gNss l :=
  open_slice Try.underlying40 opnNss hv h hw
end
def bRow (n : Nat) (p : Nat → Bool) : Array Value := ((List.range n).map fun i => Value.bool (p i)).toArray
theorem bRow_get {n i : Nat} (p : Nat → Bool) (h : i < n) : (bRow n p)[i]? = some (.bool (p i)) := by simp [bRow, h]
theorem bRow_set {n b : Nat} (p : Nat → Bool) : (bRow n p).setIfInBounds b (.bool true) = bRow n (fun x => p x || x == b) := by
  apply Array.toList_inj.1
  unfold bRow
  simp only [List.setIfInBounds_toArray]
  apply List.ext_getElem?
  intro i
  by_cases hi : i < n
  · rw [List.getElem?_set]
    by_cases e : b = i
    · subst e; simp [hi]
    · simp [hi, e, Ne.symm e]
  · rw [List.getElem?_eq_none (by simp; omega), List.getElem?_eq_none (by simp; omega)]
theorem bRow_false (n : Nat) : bRow n (fun _ => false) = Array.replicate n (.bool false) := by
  apply Array.toList_inj.1
  apply List.ext_getElem?
  intro i
  unfold bRow
  by_cases hi : i < n
  · simp [hi]
  · rw [List.getElem?_eq_none (by simp; omega), List.getElem?_eq_none (by simp; omega)]
theorem infoBool : (Try.prog.info? 4).map (fun i => (i.zero, i.size, i.bytes)) = some (some (.bool false), 1, 1) := by kernel_rfl
set_option maxRecDepth 100000 in
theorem mk_bools (N : Nat) (hN : N ≤ 1000000) (W : World) : (Instr.makeSlice 43 (.int .i64 (N : Int)) (.int .i64 (N : Int))).run Try.prog W = .ok (.slice (some ⟨W.heap.size, 0, none⟩) N N) (W.alloc (.cells (List.replicate N (.bool false)).toArray 4)) := by
  obtain ⟨i0, hi, hzz⟩ := Option.map_eq_some_iff.1 infoBool
  simp only [Prod.mk.injEq] at hzz
  obtain ⟨hz0, hz1, hz2⟩ := hzz
  have hr := run_make (P := Try.prog) W 43 4 i0 (.bool false) (by exact Try.underlying43) hi hz0 .i64 .i64 (N : Int) (N : Int) (by omega) (by omega) (by rw [hz2]; omega) (by omega)
  simp only [Int.toNat_natCast] at hr
  rw [hz1, Nat.mul_one] at hr
  rw [hr]
  have : madeCells (Value.bool false).cells N = (List.replicate N (.bool false)).toArray := by
    apply Array.toList_inj.1
    rw [show (Value.bool false).cells = #[.bool false] from rfl, toList_madeCells_one]
  rw [this]
/-- Those seen, and those still to be looked at, in memory. -/
structure FW (w : World) (n g : Nat) (p : Nat → Bool) (v : Value) (T : List Nat) (wr : World) : Prop where
  below : Below w.heap.size w wr
  out : wr.heap[g]? = some (.cells (bRow n p) 4 (0, 0))
  row : kI.R 3 wr w.heap.size (fun _ => True) v (ints T)
  old : w.heap.size ≤ g
section
variable {w wr w1 : World} {n g : Nat} {p : Nat → Bool} {v : Value} {T : List Nat}
theorem FW.mark (h : FW w n g p v T wr) (b : Nat) : FW w n g (fun x => p x || x == b) v T (wr.setCell ⟨g, b, none⟩ (.bool true)) :=
  ⟨h.below.setCell h.old _, blk_put h.out b _ (bRow_set p), Kd.R_set h.row h.out (by decide) _ _, h.old⟩
theorem FW.at (h : FW w n g p v T wr) {b : Nat} (hb : b < n) : wr.cell? ⟨g, b, none⟩ = some (.bool (p b)) := by
  rw [blk_cell h.out, bRow_get p hb]
theorem FW.push (h : FW w n g p v T wr) {v1 : Value} {b : Nat} (hR : kI.R 3 w1 w.heap.size (fun _ => True) v1 (ints T ++ [(b : Int)])) (hB : Below w.heap.size w w1) (hG : wr.grownBy w1 v.ownBlock) : FW w n g p v1 (T ++ [b]) w1 :=
  ⟨hB, blk_grown h.out hG (Kd.R_ne h.row h.out (by decide)), by rw [show ints (T ++ [b]) = ints T ++ [(b : Int)] by simp [ints]]; exact hR, h.old⟩
end
set_option maxRecDepth 100000 in
set_option maxHeartbeats 8000000 in
theorem from_any (A : Option Addr) (c : Nat) (L : List Bk) (w : World) (x : Nat) (wo : Int) (hL : kB.C w A L.length L) (hM : May 20000 L) (hwo : (wo = -1 ∧ L.length ≤ x) ∨ (wo = (x : Int) ∧ x < L.length)) :
    Calls Try.prog 22 #[.slice A L.length c, .int .i64 wo] w fun e w' => ∃ (g : Nat) (p : Nat → Bool), e = .returned (.slice (some ⟨g, 0, none⟩) L.length L.length) ∧ w.heap.size ≤ g ∧ w'.heap[g]? = some (.cells (bRow L.length p) 4 (0, 0)) ∧ Below w.heap.size w w' ∧ ∀ b, p b = true ↔ Av (fun a b => b ∈ gB L a) x b := by
  obtain ⟨lb, lo, eA⟩ := C_plain hL hM.pos (by decide)
  subst eA
  have HL := hid hL
  have HM := hid hM
  have hn0 := hM.pos
  have hn8 := hM.few
  have HW := hid (show ∀ v : Nat, v < L.length → ((v : Int) = wo ↔ v = x) by intro v hv; omega)
  have hx0 : wo = 0 ↔ x = 0 := by omega
  have HX0 := hid hx0
  have hmk := mk_bools L.length (by omega)
  clear hL hM hwo
  generalize hN : L.length = n at *
  have HN := hid hN
  clear hN
  have K0 := blk_new w (.cells (Array.replicate n (.bool false)) 4)
  have HF0 := hid (show FW w n w.heap.size (fun _ => false) (.slice none 0 0) [] (w.alloc (.cells (Array.replicate n (.bool false)) 4)) from
    ⟨below_alloc (Below.refl _ _) _, by rw [bRow_false]; exact K0, Kd.R_nil _ _ _ _ _, Nat.le_refl _⟩)
  clear K0
  obtain ⟨g, hg⟩ : ∃ g, w.heap.size = g := ⟨_, rfl⟩
  have l0 : (0 : Int) < n := by omega
  go_enter Try.func22, Try.ntmps22
  go_upto_region 3 with fail
  have HG := hid hg
  rw [hg] at HF0
  clear hg hmk hx0
  obtain ⟨wb, hwb⟩ : ∃ wb, (wo != 0) = wb := ⟨_, rfl⟩
  go_upto_if 14 with fail
  have HWB := hid (show wb = true ↔ x ≠ 0 by rw [← hwb, bne_iff_ne]; exact not_congr HX0.out)
  clear hwb
  go_cut [6] (fun tV wx => ∃ (p : Nat → Bool) (T : List Nat), Hid (FW w n g p tV T wx) ∧ Hid (Seen (gB L) (gB L) n x p T))
  case first =>
    cases wb
    · have h0 : x = 0 := Classical.byContradiction fun h => by have := HWB.out.2 h; cases this
      have HS := hid (Seen.none (g := gB L) (n := n) h0)
      clear h0
      go_wp2_with fail
      go_meet
      exact ⟨_, _, HF0, HS⟩
    · have h0 : x ≠ 0 := HWB.out.1 rfl
      have HS := hid (Seen.start (g := gB L) h0 hn0)
      clear h0
      have c0 := HF0.out.at (b := 0) hn0
      have f0 := blk_frozen HF0.out.out 0
      have HF1 := hid (HF0.out.mark 0)
      go_upto_region 5 with fail
      generalize World.setCell _ _ _ = w5 at *
      clear c0 f0
      go_wp2_with (at_builtin; refine Kd.R_append kI w.heap.size rfl (.tmp 17) (.tmp 18) 27 3 _ 8 rfl Try.underlying27 infoInt rfl (by decide) (by decide) _ (ints []) ((0 : Nat) : Int) [.int .i64 0] (fun _ => True) (fun _ => False) rfl rfl rfl (fun _ h => h.elim) (fun _ _ => trivial) HF1.out.row HF1.out.below HF1.out.below.size (by decide) ?_; intro v1 w6 hR1 hB1 hG1 _; have HF2 := hid (HF1.out.push (b := 0) hR1 hB1 hG1); clear hR1 hB1 hG1)
      go_meet
      exact ⟨_, _, HF2, HS⟩
  case rest =>
    obtain ⟨p0, T0, HF, HS⟩ := hcut
    clear HF0
    clear hn0 HWB
    go_upto_region 6 with fail
    go_loopg [6] (T0.length + 2 * nf n p0) (fun k tV wr => ∃ (p : Nat → Bool) (T : List Nat), Hid (k = T.length + 2 * nf n p) ∧ Hid (FW w n g p tV T wr) ∧ Hid (Seen (gB L) (gB L) n x p T))
    case atStart => exact ⟨p0, T0, rfl, HF, HS⟩
    case round =>
    obtain ⟨p, T, HK, HF1, HS1⟩ := hrel
    clear HF HS
    rcases List.eq_nil_or_concat T with rfl | ⟨T, b, rfl⟩
    · obtain ⟨At, ct, et⟩ := Kd.R_slice HF1.out.row
      subst et
      rw [show (ints []).length = 0 from rfl] at HF1 ⊢
      go_wp2_with fail
      go_ret
      exact ⟨g, p, rfl, Nat.le_of_eq HG.out, HF1.out.out, HF1.out.below, fun b => HS1.out.all b⟩
    · rw [List.concat_eq_append] at *
      obtain ⟨hsp, hpb, hbn⟩ := HS1.out.pop
      have HSP := hid hsp
      have HPB := hid hpb
      clear hsp hpb
      obtain ⟨gt, ct, et, hz1, hz2, hz3⟩ := Kd.R_form HF1.out.row (by simp [ints])
      have htl : (ints (T ++ [b])).length = T.length + 1 := by simp [ints]
      rw [htl] at et
      subst et
      clear hz1 hz2 hz3
      have HRT := hid (Kd.R_take HF1.out.row (m := T.length) (by simp [ints]))
      rw [show (ints (T ++ [b])).take T.length = ints T by simp [ints]] at HRT
      have hcap : T.length + 1 ≤ ct := (Kd.R_reads' HF1.out.row).2.1
      have d1 := C_scalar (h1 := fun _ => rfl) (Kd.R_reads' HF1.out.row).2.2 0 T.length (by rw [htl]; omega)
      rw [show (ints (T ++ [b])).getD T.length 0 = (b : Int) by simp [ints, List.getD], Nat.zero_add] at d1
      have HFP := hid (show FW w n g p (.slice (some ⟨gt, 0, none⟩) T.length ct) T wr from ⟨HF1.out.below, HF1.out.out, HRT.out, HF1.out.old⟩)
      have hTn : T.length ≤ 8192 := by have := HSP.out.size; omega
      have HK1 := hid (show gk = T.length + 1 + 2 * nf n p by have := HK.out; rw [List.length_append] at this; simpa using this)
      obtain ⟨gA, gc, _, _, e2, _, _, C2⟩ := kB_get HL.out hbn
      have HX2 := hid (fun W (hB : Below w.heap.size w W) => (hB.cell (World.block_lt_of_cell? w _ e2)).trans e2)
      have HCV := hid C2
      have HGB := hid (show gB L b = (L.getD b zBk).goes.map Int.toNat from rfl)
      have HMB := hid (fun q hq => HM.out.to (u := b) (q := q) (by rw [HN.out]; exact hbn) hq)
      rw [HN.out] at HMB
      have hgl : (L.getD b zBk).goes.length ≤ 20000 := (HM.out.at (by rw [HN.out]; exact hbn)).1
      have HGL := hid (show (gB L b).length = (L.getD b zBk).goes.length by rw [HGB.out, List.length_map])
      clear HRT HK HS1 e2 C2 HGB htl HF1
      generalize (L.getD b zBk).goes = gl at *
      generalize hgn : gl.length = gn at *
      have HGN := hid hgn
      clear hgn
      generalize hta : T.length = tn at *
      have HTN := hid hta
      clear hta
      have lb1 : (b : Int) < n := by omega
      go_upto_region 9 with fail
      clear d1
      go_upto_region 10 with fail
      go_loopw [6, 8] (fun tV qV wr => ∃ (p' : Nat → Bool) (T' : List Nat) (q : Nat), q ≤ gn ∧ qV = .int .i64 q ∧ Hid (FW w n g p' tV T' wr) ∧ Hid (Seen (gB L) (updL (gB L) b ((gB L b).take q)) n x p' T') ∧ Hid (T'.length + 1 + 2 * nf n p' ≤ gk) ∧ Hid (p' b = true)) (fun _ qV _ => gn - (intOf qV).toNat)
      case atStart => exact ⟨p, T, 0, by omega, rfl, HFP, HSP, by have := HK1.out; have := HTN.out; exact hid (by omega), HPB⟩
      obtain ⟨p', T', q, hq, rfl, HR, HS2, HK2, HB2⟩ := hrel
      clear HFP HSP HPB HK1 HTN hcap hTn
      have y2 := HX2.out wr HR.out.below
      by_cases hqn : q < gn
      · obtain ⟨v, hv, hgv, hcv⟩ := HMB.out q hqn
        obtain ⟨ga, oa, eA⟩ := C_plain HCV.out (by omega) (by decide)
        subst eA
        have d1 := C_scalar (h1 := fun _ => rfl) HCV.out 0 q (by rw [HGN.out]; exact hqn)
        rw [hcv] at d1
        have d2 := (HR.out.below.cell (World.block_lt_of_cell? w _ d1)).trans d1
        have c3 := HR.out.at hv
        have HGV := hid hgv
        have lq : (q : Int) < gn := by omega
        have lv : (v : Int) < n := by omega
        have hwv := HW.out v hv
        clear d1 hcv hgv
        by_cases hpv : p' v = true
        · rw [hpv] at c3
          have HPV := hid hpv
          clear hpv hwv
          go_wp2_with fail
          go_roundw
          case rel => exact ⟨p', T', q + 1, by omega, by go_num, HR, HS2.out.miss HGV.out (.inl HPV.out), HK2, HB2⟩
          case measure => simp [intOf]; omega
        · have hpv' : p' v = false := by simpa using hpv
          rw [hpv'] at c3
          have HPV := hid hpv'
          clear hpv hpv'
          by_cases hvx : v = x
          · have b1 : ((v : Int) != wo) = false := by have := hwv.2 hvx; simp [this]
            have HVX := hid hvx
            clear hvx hwv
            go_wp2_with fail
            go_roundw
            case rel => exact ⟨p', T', q + 1, by omega, by go_num, HR, HS2.out.miss HGV.out (.inr HVX.out), HK2, HB2⟩
            case measure => simp [intOf]; omega
          · have b1 : ((v : Int) != wo) = true := by simp only [bne_iff_ne]; exact fun e => hvx (hwv.1 e)
            have HVX := hid hvx
            have f3 := blk_frozen HR.out.out v
            have HR2 := hid (HR.out.mark v)
            have HS3 := hid (HS2.out.hit HGV.out HB2.out hv HPV.out HVX.out)
            have hsz := HS3.out.size
            rw [List.length_append] at hsz
            simp only [List.length_singleton] at hsz
            have HNF := hid (nf_lt hv HPV.out)
            obtain ⟨At, ct2, et⟩ := Kd.R_slice HR.out.row
            subst et
            rw [ints_len] at HR HR2 ⊢
            have HLT := hid (show T'.length ≤ 8192 by omega)
            clear hvx hwv hsz
            generalize htn : T'.length = tn2 at *
            have HTN2 := hid htn
            clear htn
            go_upto_region 15 with fail
            generalize World.setCell _ _ _ = w5 at *
            clear c3 f3 d2 y2 HR
            go_wp2_with (at_builtin; refine Kd.R_append kI w.heap.size rfl (.tmp 65) (.tmp 67) 27 3 _ 8 rfl Try.underlying27 infoInt rfl (by decide) (by decide) _ (ints T') (v : Int) [.int .i64 (v : Int)] (fun _ => True) (fun _ => False) rfl rfl rfl (fun _ h => h.elim) (fun _ _ => trivial) HR2.out.row HR2.out.below HR2.out.below.size (by rw [ints_len, HTN2.out]; have := HLT.out; omega) ?_; intro v1 w6 hR1 hB1 hG1 _; have HR3 := hid (HR2.out.push hR1 hB1 hG1); obtain ⟨A5, n5, c5, rfl⟩ := R_sl hR1; clear hR1 hB1 hG1)
            go_roundw
            case rel => exact ⟨_, _, q + 1, by omega, by go_num, HR3, HS3, by rw [List.length_append, List.length_singleton, HTN2.out]; have := HNF.out; have := HK2.out; exact hid (by omega), by rw [HB2.out]; rfl⟩
            case measure => simp [intOf]; omega
      · obtain rfl : q = gn := by omega
        have HS3 := hid (show Seen (gB L) (gB L) n x p' T' by
          have := HS2.out
          rw [← HGL.out] at this
          exact this.done)
        clear HS2
        go_wp2_with fail
        go_roundg (T'.length + 2 * nf n p')
        case rel => exact ⟨p', T', rfl, HR, HS3⟩
        case measure => have := HK2.out; omega
end Go.Proofs.Ythjjkpkohhmgcaa
