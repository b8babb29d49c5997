/- heads: classes' heads, in memory of their own. -/
import Derived.Test.YtlihpmhnlooapaaDoorMk
namespace Go.Proofs.YtlihpmhnlooapaaDoor
open Go.RowKit Go.Proofs.YtlihpmhnlooapaaDoorW.PrintWords Go.Maps Go.WideMaps

def headOf (x : Cl) : Cl := ⟨zSl, x.name, x.super, x.face, x.faces, zSl, zSl⟩
theorem headOf_ok {x : Cl} (h : clOk x) : clOk (headOf x) := h
theorem el_at2 {w : World} {g off n : Nat} {L : List Cl} (h : kCl.C w (some ⟨g, off, none⟩) n L) (k : Nat) (hk : k < n) : ∃ e : El, ElCl w e (L.getD k zCl) ∧
    w.cell? ⟨g, off + k * 7 + 1, none⟩ = some (.string e.n) ∧ w.cell? ⟨g, off + k * 7 + 2, none⟩ = some (.string e.s) ∧ w.cell? ⟨g, off + k * 7 + 3, none⟩ = some (.bool e.b) ∧ w.cell? ⟨g, off + k * 7 + 4, none⟩ = some (.slice e.f.a e.f.n e.f.c) := by
  obtain ⟨hl, _, h3⟩ := h
  obtain ⟨ad, ea, h4⟩ := h3 (by omega)
  cases ea
  obtain ⟨c, hc, hK, h5⟩ := h4 k L[k] (List.getElem?_eq_getElem (by omega))
  obtain ⟨e, rfl, he⟩ := elCl_of hK
  have key : ∀ j u, e.cells[j]? = some u → w.cell? ⟨g, off + k * 7 + j, none⟩ = some u := fun j u hu => by
    have := h5 j u hu
    unfold Addr.add at this
    split at this
    · rename_i h0
      have e1 : k * 7 + j = 0 := h0
      have e2 : off + k * 7 + j = off := by omega
      rw [e2]
      exact this
    · have e2 : off + k * 7 + j = off + (k * 7 + j) := by omega
      rw [e2]
      exact this
  refine ⟨e, ?_, key 1 _ rfl, key 2 _ rfl, key 3 _ rfl, key 4 _ rfl⟩
  have : L.getD k zCl = L[k] := by simp [List.getD, show k < L.length by omega]
  rw [this]
  exact he
set_option maxRecDepth 100000 in
set_option maxHeartbeats 8000000 in
theorem heads_any (A : Option Addr) (c : Nat) (l : List Cl) (w : World) (hC : kCl.C w A l.length l) (hb : l.length ≤ 1034834473171) (hok : ∀ x ∈ l, clOk x) :
    Calls Tryd.prog 15 #[.slice A l.length c] w fun e w' => ∃ v, e = .returned v ∧ kCl.R 41 w' w.heap.size (fun _ => True) v (l.map headOf) ∧ Below w.heap.size w w' := by
  have HC := hid hC
  have HOK := hid hok
  obtain ⟨n, hn⟩ : ∃ n, l.length = n := ⟨_, rfl⟩
  rw [hn] at hb HC ⊢
  have HN := hid hn
  clear hC hok hn
  go_enter Tryd.func15, Tryd.ntmps15
  go_wp2
  go_loopw [3, 4] (fun oV iV wr => ∃ k : Nat, k ≤ n ∧ iV = .int .i64 k ∧ Hid (kCl.R 41 wr w.heap.size (fun _ => True) oV ((l.take k).map headOf)) ∧ Hid (Below w.heap.size w wr)) (fun _ iV _ => n - (intOf iV).toNat)
  case atStart => exact ⟨0, by omega, rfl, Kd.R_nil _ _ _ _ _, Below.refl _ _⟩
  obtain ⟨k, hk, rfl, HR, HB⟩ := hrel
  by_cases hlt : k < n
  · obtain ⟨b, off, hA⟩ := C_plain HC.out (by omega) (by decide)
    subst hA
    obtain ⟨e, hE, d1, d2, d3, d4⟩ := el_at2 (Kd.C_below HC.out HB.out) k hlt
    have hXL : l.getD k zCl ∈ l := by simp [List.getD, show k < l.length by rw [HN.out]; exact hlt]
    have HXO := hid (HOK.out _ hXL)
    have HLK := hid (show (l.take (k + 1)).map headOf = (l.take k).map headOf ++ [headOf (l.getD k zCl)] by
      rw [take_snoc_Cl (by rw [HN.out]; exact hlt), List.map_append]; rfl)
    generalize l.getD k zCl = x at *
    have HE := hid hE
    have zb := World.block_lt_of_cell? wr _ d1
    clear hE hXL
    go_wp2_with fail
    go_region
    have k5 := hid (blk_drew (blk_new wr (.cells #[.slice none 0 0, .string e.n, .string e.s, .bool e.b, .slice none 0 0, .slice none 0 0, .slice none 0 0] 41)))
    have hbw := below_drew (below_alloc (Below.refl wr.heap.size wr) (.cells #[.slice none 0 0, .string e.n, .string e.s, .bool e.b, .slice none 0 0, .slice none 0 0, .slice none 0 0] 41))
    have HBW := hid hbw
    have hzb := HB.out.size
    have HLT := hid (show ∀ j, u3.ownBlock = some j → j < wr.heap.size from Kd.R_lt HR.out)
    have hzw5 := hbw.size
    have HE5 := hid (HE.out.below hbw)
    have d5 := (hbw.cell (World.block_lt_of_cell? wr _ d4)).trans d4
    have zb5 : wr.heap.size < (wr.alloc (.cells #[.slice none 0 0, .string e.n, .string e.s, .bool e.b, .slice none 0 0, .slice none 0 0, .slice none 0 0] 41)).drew.heap.size := blk_lt k5.out
    have zbb : b < (wr.alloc (.cells #[.slice none 0 0, .string e.n, .string e.s, .bool e.b, .slice none 0 0, .slice none 0 0, .slice none 0 0] 41)).drew.heap.size := by omega
    clear d1 d2 d3 d4 hbw HE zb
    generalize (wr.alloc (.cells #[.slice none 0 0, .string e.n, .string e.s, .bool e.b, .slice none 0 0, .slice none 0 0, .slice none 0 0] 41)).drew = w5 at *
    have c4 := blk_cell k5.out 4
    have c4f := blk_frozen k5.out 4
    go_wp2_with fail
    go_region_law (first | (refine Kd.R_append_rows_step Kd.string (w0 := w5) w5.heap.size (by rfl) (.tmp 29) (.tmp 34) 37 9 _ 16 (by rfl) Tryd.underlying37 infoStr (by rfl) (by decide) (by decide) (.slice none 0 0) ([] : List ByteArray) x.faces _ _ _ (fun _ => True) (fun _ => False) (by rfl) (by rfl) (Kd.R_nil _ _ _ _ _) (by have := HE5.out.fC; rw [← HE5.out.fn] at this; exact this) (fun _ _ h => h) (fun _ h => h.elim) (fun _ _ => trivial) (below_drew (Below.refl _ _)) (by simp) (by simp; have := HXO.out.2.2.1; have := HE5.out.fn; omega) ?_; intro v1 w6 hR6 hB6 _ _; have HB6 := hid hB6; have k6 := hid (blk_below k5.out hB6); have HR6 := hid hR6; clear hR6 hB6; obtain ⟨A1, n1, c1, rfl⟩ := R_sl HR6.out; have x1 := blk_cell k6.out 4; have x2 := blk_frozen k6.out 4))
    all_goals
      have hb6 := below_weaken HBW.out hzw5 HB6.out
      have hz6 := HB6.out.size
      have HB7 := hid (hb6.setCell (p := ⟨wr.heap.size, 4, none⟩) (Nat.le_refl _) (.slice A1 n1 c1))
      have k7 := hid (blk_put k6.out 4 (.slice A1 n1 c1) rfl)
      have HR7 := hid (Kd.R_below HR.out HB7.out)
      have HM7 := hid (show kCl.M (w6.setCell ⟨wr.heap.size, 4, none⟩ (.slice A1 n1 c1)) w.heap.size (fun j => wr.heap.size ≤ j) (headOf x) [.slice none 0 0, .string e.n, .string e.s, .bool e.b, .slice A1 n1 c1, .slice none 0 0, .slice none 0 0] from by
        rw [HE5.out.n, HE5.out.s, HE5.out.b]
        refine mkCl_M _ _ _ (headOf x) _ ?_
        refine Kd.R_mono (Kd.R_lower (Kd.R_bound (Kd.R_set HR6.out k6.out (by decide) 4 _)) (by omega)) (fun j hj => ?_)
        have := hj.2.1
        omega)
      clear hb6 k6 k5 x1 x2 c4 c4f d5 HR6 HE5 HB6 HBW
      generalize w6.setCell ⟨wr.heap.size, 4, none⟩ (.slice A1 n1 c1) = w7 at *
      have hz7 := HB7.out.size
      have c0 := blk_cell k7.out 0
      have c1' := blk_cell k7.out 1
      have c2 := blk_cell k7.out 2
      have c3 := blk_cell k7.out 3
      have c4 := blk_cell k7.out 4
      have c5 := blk_cell k7.out 5
      have c6 := blk_cell k7.out 6
      have HBB := hid (below_weaken HB.out hzb HB7.out)
      go_wp2_with (at_builtin; refine Kd.R_append kCl w.heap.size rfl (.tmp 37) (.tmp 39) 22 41 _ 136 rfl Tryd.underlying22 infoCls rfl (by decide) (by decide) _ ((l.take k).map headOf) (headOf x) [.slice none 0 0, .string e.n, .string e.s, .bool e.b, .slice A1 n1 c1, .slice none 0 0, .slice none 0 0] (fun _ => True) (fun j => wr.heap.size ≤ j) rfl rfl HM7.out (fun j hj => ⟨trivial, fun e => by have := HLT.out j e.symm; omega⟩) (fun _ _ => trivial) HR7.out HBB.out HBB.out.size (by rw [List.length_map]; have := List.length_take_le k l; omega) ?_; intro v1 w1 hR1 hB1 hG1 hat1; have HR1 := hid hR1; have HB1 := hid hB1; clear hR1 hB1)
      go_roundw
      case rel => exact ⟨k + 1, by omega, by go_num, by rw [HLK.out]; exact HR1, HB1⟩
      case measure => simp [intOf]; omega
  · have HF := hid (show kCl.R 41 wr w.heap.size (fun _ => True) u3 (l.map headOf) by
      have := HR.out
      rw [List.take_of_length_le (by rw [HN.out]; omega)] at this
      exact this)
    go_wp2
    go_ret
    exact ⟨_, rfl, HF.out, HB.out⟩
end Go.Proofs.YtlihpmhnlooapaaDoor
