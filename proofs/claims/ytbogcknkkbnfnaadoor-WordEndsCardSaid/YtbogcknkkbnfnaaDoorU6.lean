/- Texts laid as one: Se Sg. -/
import Derived.Test.YtbogcknkkbnfnaaDoorU5
import Derived.Deep.DrawnRows
/- The laws on words: the chapter's examples hold. -/
namespace Go.Proofs.YtbogcknkkbnfnaaDoor
open Go.RowKit Go.Proofs.YtbogcknkkbnfnaaDoorW.PrintWords Go.Maps Go.WideMaps
attribute [local go_sem ↓] Go.wp_at_zero Go.wp_at_succ

theorem blk_new2 (w : World) (o1 o2 : Obj) : ((w.alloc o1).alloc o2).heap[w.heap.size + 1]? = some o2 := by
  have := blk_new (w.alloc o1) o2
  rw [World.size_alloc] at this
  exact this
def wl1 : List Wd := [⟨2, 0, ⟨#[]⟩⟩, ⟨3, 0, ⟨#[]⟩⟩]
def wl2 : List Wd := [⟨1, 0, ⟨#[]⟩⟩, ⟨1, 0, ⟨#[]⟩⟩]
theorem wok1 : okF wS wl1 [] wl1 [] = true := by decide +kernel
theorem wok2 : okF wS wl1 [] wl2 [] = true := by decide +kernel
theorem wr1 : listsW wS wl1 wl1 = wl1 := sameW_iff.1 (by decide +kernel)
theorem wr2 : listsW wS wl1 wl2 = [zWd, zWd] := sameW_iff.1 (by decide +kernel)
theorem wnil (w : World) : kWd.C w none 0 [] := ⟨rfl, by decide, fun h => by omega⟩
/-- Two frames of two words come to one. -/
theorem fr_any {B p : Nat} {w : World} (h : IsSet B p wS w) (hO : Wob w) (ga gb : Nat) (a b r : List Wd) (ha : WRow ga [] a w) (hb : WRow gb [] b w) (la : a.length = 2) (lb : b.length = 2) (sa : szW a) (sb : szW b) (hok : okF wS a [] b [] = true) (hr : listsW wS a b = r) :
    Calls Tryd.prog 16 #[.pointer (some ⟨p, 0, none⟩), .agg #[.slice (some ⟨ga, 0, none⟩) 2 2, .slice none 0 0], .agg #[.slice (some ⟨gb, 0, none⟩) 2 2, .slice none 0 0]] w fun e w' => ∃ q c A' c', e = .returned (.tuple #[.agg #[.slice (some ⟨q, 0, none⟩) 2 c, .slice A' 0 c'], .bool true]) ∧ (∃ tl, WRow q tl r w') ∧ Below w.heap.size w w' := by
  have ca := ha.C (by omega)
  have cb := hb.C (by omega)
  rw [la] at ca
  rw [lb] at cb
  refine (frames_any h hO _ none _ none 2 0 2 0 2 0 2 0 a [] b [] ca (wnil w) cb (wnil w) (by omega) (by omega) (by omega) (by omega) sa (fun x hx => by cases hx) sb (fun x hx => by cases hx)).mono ?_
  rintro e w' ⟨hB, h⟩
  rcases h with ⟨_, A, c, A', c', rfl, h1, _⟩ | ⟨h, _⟩
  · rw [la, hr] at h1
    obtain ⟨q, tl, rfl, _, hR⟩ := h1.2 (by omega)
    exact ⟨q, c, A', c', by rw [la]; rfl, ⟨tl, hR⟩, hB⟩
  · rw [hok] at h; cases h
theorem wsz1 : szW wl1 := by intro x hx; simp only [wl1, List.mem_cons, List.not_mem_nil, or_false] at hx; rcases hx with rfl | rfl <;> decide +kernel
theorem wsz2 : szW wl2 := by intro x hx; simp only [wl2, List.mem_cons, List.not_mem_nil, or_false] at hx; rcases hx with rfl | rfl <;> decide +kernel
set_option maxRecDepth 100000 in
set_option maxHeartbeats 8000000 in
theorem wawake_any (w : World) (hBi : Bi w) (hO : Wob w) : Calls Tryd.prog 12 #[] w fun e w' => e = .returned (.bool true) ∧ Below w.heap.size w w' := by
  have HBI := hid (fun (W : World) (hW : Below w.heap.size w W) => hBi.below hBi.lt hW)
  have HOW := hid (fun (W : World) (hW : Below w.heap.size w W) => hO.below hO.lt hW)
  clear hBi hO
  go_enter Tryd.func12, Tryd.ntmps12
  go_upto_region 2 with (first | (go_at_call 48; refine (wchapter_any w).mono ?_; rintro e w1 ⟨g, rfl, hC, hB⟩; have HC := hid hC; have HB := hid hB; clear hC hB) | (go_at_call 41; refine (wchNew g w1 (HBI.out _ HB.out) HC.out).mono ?_; rintro e w2 ⟨p, rfl, hS, hB2⟩; have HS := hid hS; have HB2 := hid (below_weaken HB.out HB.out.size hB2); clear hS hB2))
  go_upto_region 5 with fail
  have HB3 := hid (below_alloc (below_alloc HB2.out (.cells #[.int .i64 4, .int .i64 0, .string ⟨#[]⟩] 35)) (.cells #[.int .i64 1, .int .i64 0, .string ⟨#[]⟩] 35))
  have K4 := hid (blk_alloc (blk_new w2 (.cells #[.int .i64 4, .int .i64 0, .string ⟨#[]⟩] 35)) (.cells #[.int .i64 1, .int .i64 0, .string ⟨#[]⟩] 35))
  have K5 := hid (blk_new2 w2 (.cells #[.int .i64 4, .int .i64 0, .string ⟨#[]⟩] 35) (.cells #[.int .i64 1, .int .i64 0, .string ⟨#[]⟩] 35))
  have HS3 := hid (HS.out.step (below_alloc (below_alloc (Below.refl w2.heap.size w2) (.cells #[.int .i64 4, .int .i64 0, .string ⟨#[]⟩] 35)) (.cells #[.int .i64 1, .int .i64 0, .string ⟨#[]⟩] 35)))
  generalize (w2.alloc (.cells #[.int .i64 4, .int .i64 0, .string ⟨#[]⟩] 35)).alloc (.cells #[.int .i64 1, .int .i64 0, .string ⟨#[]⟩] 35) = w3 at *
  have HM := hid (fun (k tk : Int) (n : ByteArray) (k' tk' : Int) (n' : ByteArray) (rk rt : Int) (rn : ByteArray) (q : MQ ⟨k, tk, n⟩ ⟨k', tk', n'⟩ ⟨rk, rt, rn⟩) (W : World) (hW : Below w3.heap.size w3 W) => (show Calls Tryd.prog 49 #[.pointer (some ⟨p, 0, none⟩), .agg #[.int .i64 k, .int .i64 tk, .string n], .agg #[.int .i64 k', .int .i64 tk', .string n']] W fun e w' => e = .returned (.agg #[.int .i64 rk, .int .i64 rt, .string rn]) ∧ Below W.heap.size W w' from wm_any (HS3.out.step hW) (HOW.out _ (below_weaken HB3.out HB3.out.size hW)) ⟨k, tk, n⟩ ⟨k', tk', n'⟩ ⟨rk, rt, rn⟩ q))
  have x0 : ∀ W, (ov w3 W).cell? ⟨w2.heap.size, 0, none⟩ = some (.int .i64 4) := ov_cell (blk_cell K4.out 0)
  have x1 : ∀ W, (ov w3 W).cell? ⟨w2.heap.size, 1, none⟩ = some (.int .i64 0) := ov_cell (blk_cell K4.out 1)
  have x2 : ∀ W, (ov w3 W).cell? ⟨w2.heap.size, 2, none⟩ = some (.string ⟨#[]⟩) := ov_cell (blk_cell K4.out 2)
  have y0 : ∀ W, (ov w3 W).cell? ⟨w2.heap.size + 1, 0, none⟩ = some (.int .i64 1) := ov_cell (blk_cell K5.out 0)
  have y1 : ∀ W, (ov w3 W).cell? ⟨w2.heap.size + 1, 1, none⟩ = some (.int .i64 0) := ov_cell (blk_cell K5.out 1)
  have y2 : ∀ W, (ov w3 W).cell? ⟨w2.heap.size + 1, 2, none⟩ = some (.string ⟨#[]⟩) := ov_cell (blk_cell K5.out 2)
  refine wp_region_ov (w0 := w3) (by kernel_rfl) (by kernel_rfl) (Below.refl _ _) ?_
  repeat (first | go_big_quiet_skip | (go_big_quiet_want; go_big_quiet_op; first | go_big_quiet_on | (apply Exists.intro; refine ⟨fun WW => ?_, ?_⟩; (first | (go_at_call 50; exact calls_ov (ref12_any _ _ _)) | (go_at_call 49; exact calls_ov (HM.out _ _ _ _ _ _ _ _ _ (by first | exact .inl ⟨rfl, rfl, rfl⟩ | exact .inr (.inl ⟨rfl, rfl, rfl⟩) | exact .inr (.inr (.inl ⟨rfl, rfl, rfl⟩))) _ (ov_below _ _)))); go_big_quiet_on)))
  refine wpQuiet_nil ?_
  rintro _ ⟨WQ, rfl⟩
  have HX0 := hid (ov_below w3 WQ)
  clear x0 x1 x2 y0 y1 y2
  generalize ov w3 WQ = w4 at *
  have x0 := blk_cell (blk_below K4.out HX0.out) 0
  have x1 := blk_cell (blk_below K4.out HX0.out) 1
  have x2 := blk_cell (blk_below K4.out HX0.out) 2
  have y0 := blk_cell (blk_below K5.out HX0.out) 0
  have y1 := blk_cell (blk_below K5.out HX0.out) 1
  have y2 := blk_cell (blk_below K5.out HX0.out) 2
  go_upto_region 7 with (first
    | (go_at_call 50; refine (ref12_any _ _ _).mono ?_; rintro e w5 ⟨rfl, hB⟩; have HX1 := hid (bel_tr (a := w3) (by first | exact HX1.out | exact HX0.out) hB); clear hB; have x0 := blk_cell (blk_below K4.out HX1.out) 0; have x1 := blk_cell (blk_below K4.out HX1.out) 1; have x2 := blk_cell (blk_below K4.out HX1.out) 2; have y0 := blk_cell (blk_below K5.out HX1.out) 0; have y1 := blk_cell (blk_below K5.out HX1.out) 1; have y2 := blk_cell (blk_below K5.out HX1.out) 2)
    | (go_at_call 49; refine (HM.out _ _ _ _ _ _ _ _ _ (by first | exact .inr (.inr (.inr (.inl ⟨rfl, rfl, rfl⟩))) | exact .inr (.inr (.inr (.inr (.inl ⟨rfl, rfl, rfl⟩)))) | exact .inr (.inr (.inr (.inr (.inr ⟨rfl, rfl, rfl⟩))))) _ (by first | exact HX1.out | exact HX0.out)).mono ?_; rintro e w5 ⟨rfl, hB⟩; have HX1 := hid (bel_tr (a := w3) (by first | exact HX1.out | exact HX0.out) hB); clear hB; have x0 := blk_cell (blk_below K4.out HX1.out) 0; have x1 := blk_cell (blk_below K4.out HX1.out) 1; have x2 := blk_cell (blk_below K4.out HX1.out) 2; have y0 := blk_cell (blk_below K5.out HX1.out) 0; have y1 := blk_cell (blk_below K5.out HX1.out) 1; have y2 := blk_cell (blk_below K5.out HX1.out) 2))
  have HW4 := hid HX1.out
  have HFR := hid (fun (ga gb : Nat) (a b r : List Wd) (W : World) (hW : Below w3.heap.size w3 W) (ha : WRow ga [] a W) (hb : WRow gb [] b W) (q : (a = wl1 ∧ b = wl1 ∧ r = wl1) ∨ (a = wl1 ∧ b = wl2 ∧ r = [zWd, zWd])) => (show Calls Tryd.prog 16 #[.pointer (some ⟨p, 0, none⟩), .agg #[.slice (some ⟨ga, 0, none⟩) 2 2, .slice none 0 0], .agg #[.slice (some ⟨gb, 0, none⟩) 2 2, .slice none 0 0]] W fun e w' => ∃ q c A' c', e = .returned (.tuple #[.agg #[.slice (some ⟨q, 0, none⟩) 2 c, .slice A' 0 c'], .bool true]) ∧ (∃ tl, WRow q tl r w') ∧ Below W.heap.size W w' from by
    rcases q with ⟨rfl, rfl, rfl⟩ | ⟨rfl, rfl, rfl⟩
    · exact fr_any (HS3.out.step hW) (HOW.out _ (below_weaken HB3.out HB3.out.size hW)) ga gb _ _ _ ha hb rfl rfl wsz1 wsz1 wok1 wr1
    · exact fr_any (HS3.out.step hW) (HOW.out _ (below_weaken HB3.out HB3.out.size hW)) ga gb _ _ _ ha hb rfl rfl wsz1 wsz2 wok2 wr2))
  go_upto_region 8 with (go_at_call 16; refine (HFR.out _ _ wl1 wl1 wl1 _ (below_alloc (below_alloc HW4.out _) _) (blk_alloc (blk_new _ (.cells #[.int .i64 2, .int .i64 0, .string ⟨#[]⟩, .int .i64 3, .int .i64 0, .string ⟨#[]⟩] 35)) (.cells #[.int .i64 2, .int .i64 0, .string ⟨#[]⟩, .int .i64 3, .int .i64 0, .string ⟨#[]⟩] 35)) (blk_new2 _ (.cells #[.int .i64 2, .int .i64 0, .string ⟨#[]⟩, .int .i64 3, .int .i64 0, .string ⟨#[]⟩] 35) (.cells #[.int .i64 2, .int .i64 0, .string ⟨#[]⟩, .int .i64 3, .int .i64 0, .string ⟨#[]⟩] 35)) (.inl ⟨rfl, rfl, rfl⟩)).mono ?_; rintro e w7 ⟨q1, cf, Af, cf', rfl, ⟨tf, hR⟩, hB⟩; have HQ1 := hid hR; have HW7 := hid (bel_tr (a := w3) (below_alloc (below_alloc HW4.out _) _) hB); clear hR hB)
  have K8 := hid (blk_new w7 (.cells #[.slice (some ⟨q1, 0, none⟩) 2 cf, .slice Af 0 cf'] 40))
  have HQ8 := hid (HQ1.out.below (below_alloc (Below.refl _ _) (.cells #[.slice (some ⟨q1, 0, none⟩) 2 cf, .slice Af 0 cf'] 40)))
  have HW8 := hid (below_alloc HW7.out (.cells #[.slice (some ⟨q1, 0, none⟩) 2 cf, .slice Af 0 cf'] 40))
  generalize w7.alloc (.cells #[.slice (some ⟨q1, 0, none⟩) 2 cf, .slice Af 0 cf'] 40) = w8 at *
  generalize w7.heap.size = k8 at *
  clear HQ1 HW7
  have x0 := blk_cell (blk_below K4.out HW8.out) 0
  have x1 := blk_cell (blk_below K4.out HW8.out) 1
  have x2 := blk_cell (blk_below K4.out HW8.out) 2
  have y0 := blk_cell (blk_below K5.out HW8.out) 0
  have y1 := blk_cell (blk_below K5.out HW8.out) 1
  have y2 := blk_cell (blk_below K5.out HW8.out) 2
  have z5 := blk_lt (blk_below K5.out HW8.out)
  go_upto_region 9 with (go_at_call 16; refine (HFR.out _ _ wl1 wl2 [zWd, zWd] _ (below_alloc (below_alloc HW8.out _) _) (blk_alloc (blk_new _ (.cells #[.int .i64 2, .int .i64 0, .string ⟨#[]⟩, .int .i64 3, .int .i64 0, .string ⟨#[]⟩] 35)) (.cells #[.int .i64 1, .int .i64 0, .string ⟨#[]⟩, .int .i64 1, .int .i64 0, .string ⟨#[]⟩] 35)) (blk_new2 _ (.cells #[.int .i64 2, .int .i64 0, .string ⟨#[]⟩, .int .i64 3, .int .i64 0, .string ⟨#[]⟩] 35) (.cells #[.int .i64 1, .int .i64 0, .string ⟨#[]⟩, .int .i64 1, .int .i64 0, .string ⟨#[]⟩] 35)) (.inr ⟨rfl, rfl, rfl⟩)).mono ?_; rintro e w9 ⟨q2, cg, Ag, cg', rfl, ⟨tg, hR⟩, hB⟩; have hB8 := bel_tr (a := w8) (below_alloc (below_alloc (Below.refl _ _) _) _) hB; have HQ2 := hid hR; have HQ9 := hid (HQ8.out.below hB8); have K89 := hid (blk_below K8.out hB8); have HW9 := hid (bel_tr (a := w3) HW8.out hB8); clear hR hB hB8)
  have K10 := hid (blk_new w9 (.cells #[.slice (some ⟨q2, 0, none⟩) 2 cg, .slice Ag 0 cg'] 40))
  have hB9 := below_alloc (Below.refl w9.heap.size w9) (.cells #[.slice (some ⟨q2, 0, none⟩) 2 cg, .slice Ag 0 cg'] 40)
  have HQ2' := hid (HQ2.out.below hB9)
  have HQ9' := hid (HQ9.out.below hB9)
  have K8' := hid (blk_below K89.out hB9)
  have HW9' := hid (bel_tr (a := w3) HW9.out hB9)
  generalize w9.alloc (.cells #[.slice (some ⟨q2, 0, none⟩) 2 cg, .slice Ag 0 cg'] 40) = wA at *
  generalize w9.heap.size = k10 at *
  clear HQ2 HQ9 K89 HW9 hB9
  go_upto_region 10 with fail
  have K12 := hid (blk_new wA (.cells #[.int .i64 3, .string ⟨#[73]⟩] 24))
  have hBA := below_alloc (Below.refl wA.heap.size wA) (.cells #[.int .i64 3, .string ⟨#[73]⟩] 24)
  have HQ2 := hid (HQ2'.out.below hBA)
  have HQ1 := hid (HQ9'.out.below hBA)
  have K8z := hid (blk_below K8'.out hBA)
  have K10z := hid (blk_below K10.out hBA)
  have HWA := hid (bel_tr (a := w3) HW9'.out hBA)
  generalize wA.alloc (.cells #[.int .i64 3, .string ⟨#[73]⟩] 24) = w10 at *
  generalize wA.heap.size = k12 at *
  clear HQ2' HQ9' K8' K10 HW9' hBA K8
  have h0 := blk_cell K8z.out 0
  have h1 : w10.cell? ⟨q1, 3, none⟩ = some (.int .i64 3) := HQ1.out.cell 1 0 (by decide) (by decide)
  have h2 := blk_cell K10z.out 0
  have h3 := blk_cell K12.out 0
  have h4 := blk_cell K12.out 1
  have h5 := blk_cell (blk_below K4.out HWA.out) 0
  have h6 := blk_cell (blk_below K4.out HWA.out) 1
  have h7 := blk_cell (blk_below K4.out HWA.out) 2
  have HKP := hid (fun w' (hb : Below w10.heap.size w10 w') => (⟨hb, (hb.cell (World.block_lt_of_cell? w10 _ h0)).trans h0, (hb.cell (World.block_lt_of_cell? w10 _ h1)).trans h1, (hb.cell (World.block_lt_of_cell? w10 _ h2)).trans h2, (hb.cell (World.block_lt_of_cell? w10 _ h3)).trans h3, (hb.cell (World.block_lt_of_cell? w10 _ h4)).trans h4, (hb.cell (World.block_lt_of_cell? w10 _ h5)).trans h5, (hb.cell (World.block_lt_of_cell? w10 _ h6)).trans h6, (hb.cell (World.block_lt_of_cell? w10 _ h7)).trans h7⟩ : Below w10.heap.size w10 w' ∧ w'.cell? ⟨k8, 0, none⟩ = some (.slice (some ⟨q1, 0, none⟩) 2 cf) ∧ w'.cell? ⟨q1, 3, none⟩ = some (.int .i64 3) ∧ w'.cell? ⟨k10, 0, none⟩ = some (.slice (some ⟨q2, 0, none⟩) 2 cg) ∧ w'.cell? ⟨k12, 0, none⟩ = some (.int .i64 3) ∧ w'.cell? ⟨k12, 1, none⟩ = some (.string ⟨#[73]⟩) ∧ w'.cell? ⟨w2.heap.size, 0, none⟩ = some (.int .i64 4) ∧ w'.cell? ⟨w2.heap.size, 1, none⟩ = some (.int .i64 0) ∧ w'.cell? ⟨w2.heap.size, 2, none⟩ = some (.string ⟨#[]⟩)))
  clear h0 h1 h2 h3 h4 h5 h6 h7
  have hmk : ∀ W : World, (Instr.makeSlice 31 (.int .i64 2) (.int .i64 2)).run Tryd.prog W = .ok (.slice (some ⟨W.heap.size, 0, none⟩) 2 2) (W.alloc (.cells #[.int .i64 0, .int .i64 0, .string ⟨#[]⟩, .int .i64 0, .int .i64 0, .string ⟨#[]⟩] 35)) := fun W => mk_words 2 (by decide) W
  have HLI := hid (fun (g2 : Nat) (W : World) (hW : Below w10.heap.size w10 W) (hg : WRow g2 [] [zWd, zWd] W) => (show Calls Tryd.prog 51 #[.slice (some ⟨q2, 0, none⟩) 2 cg, .slice (some ⟨g2, 0, none⟩) 2 2] W fun e w' => e = .returned (.bool true) ∧ Below W.heap.size W w' from by
    have := list_any (some ⟨q2, 0, none⟩) (some ⟨g2, 0, none⟩) cg 2 2 2 [zWd, zWd] [zWd, zWd] W ((HQ2.out.below hW).C (by decide)) (hg.C (by decide)) (by omega) (by omega)
    rw [sameW_iff.2 rfl] at this
    exact this))
  have HFI := hid (fun (k tk : Int) (n : ByteArray) (v : Bool) (W : World) (hW : Below w10.heap.size w10 W) (q : (k = 5 ∧ tk = 3 ∧ n = ⟨#[66]⟩ ∧ v = true) ∨ (k = 5 ∧ tk = 3 ∧ n = ⟨#[79, 98, 106, 101, 99, 116]⟩ ∧ v = false) ∨ (k = 4 ∧ tk = 0 ∧ n = ⟨#[]⟩ ∧ v = true)) => (show Calls Tryd.prog 14 #[.pointer (some ⟨p, 0, none⟩), .agg #[.int .i64 k, .int .i64 tk, .string n], .agg #[.int .i64 3, .string ⟨#[73]⟩]] W fun e w' => e = .returned (.bool v) ∧ Below W.heap.size W w' from by
    have key : ∀ x : Wd, x.tn.size ≤ 9223372036854775807 → _ := fun x hx => fits_any (HS3.out.step (bel_tr (a := w3) HWA.out hW)) x 3 sI hx (by decide +kernel)
    rcases q with ⟨rfl, rfl, rfl, rfl⟩ | ⟨rfl, rfl, rfl, rfl⟩ | ⟨rfl, rfl, rfl, rfl⟩
    · have := key ⟨5, 3, sB⟩ (by decide +kernel)
      rw [wf1] at this
      exact this
    · have := key ⟨5, 3, bn 0⟩ (by decide +kernel)
      rw [wf2] at this
      exact this
    · have := key ⟨4, 0, ⟨#[]⟩⟩ (by decide +kernel)
      rw [wf3] at this
      exact this))
  have HBA := hid (bel_tr (a := w) HB3.out HWA.out)
  have HBy := hid (Below.refl w10.heap.size w10)
  clear HBI HOW HC HB HS HB2 K4 K5 HS3 HM HW4 HW8 HFR HQ8 K8z K10z K12 HX0 HX1
  go_region_held3 (fun w' => Below w10.heap.size w10 w' ∧ w'.cell? ⟨k8, 0, none⟩ = some (.slice (some ⟨q1, 0, none⟩) 2 cf) ∧ w'.cell? ⟨q1, 3, none⟩ = some (.int .i64 3) ∧ w'.cell? ⟨k10, 0, none⟩ = some (.slice (some ⟨q2, 0, none⟩) 2 cg) ∧ w'.cell? ⟨k12, 0, none⟩ = some (.int .i64 3) ∧ w'.cell? ⟨k12, 1, none⟩ = some (.string ⟨#[73]⟩) ∧ w'.cell? ⟨w2.heap.size, 0, none⟩ = some (.int .i64 4) ∧ w'.cell? ⟨w2.heap.size, 1, none⟩ = some (.int .i64 0) ∧ w'.cell? ⟨w2.heap.size, 2, none⟩ = some (.string ⟨#[]⟩))
    (first | exact HKP.out _ (below_drew HBy.out) | exact HKP.out _ (by assumption) | exact HKP.out _ (below_drew (below_alloc HBy.out _)) | exact HKP.out _ (below_alloc (below_drew HBy.out) _))
    (first
      | (go_at_call 51; refine (HLI.out _ _ (And.left (by assumption)) (by first | exact blk_drew (blk_new _ _) | exact blk_new _ _)).mono ?_; rintro e w5 ⟨rfl, hB⟩; have hXX := bel_tr (a := w10) (And.left (by assumption)) hB; clear hB)
      | (go_at_call 50; refine (ref12_any _ _ _).mono ?_; rintro e w5 ⟨rfl, hB⟩; have hXX := bel_tr (a := w10) (And.left (by assumption)) hB; clear hB)
      | (go_at_call 14; refine (HFI.out _ _ _ _ _ (And.left (by assumption)) (by first | exact .inl ⟨rfl, rfl, rfl, rfl⟩ | exact .inr (.inl ⟨rfl, rfl, rfl, rfl⟩) | exact .inr (.inr ⟨rfl, rfl, rfl, rfl⟩))).mono ?_; rintro e w5 ⟨rfl, hB⟩; have hXX := bel_tr (a := w10) (And.left (by assumption)) hB; clear hB))
  all_goals
    go_wp2
    go_ret
    exact ⟨rfl, bel_tr (a := w) HBA.out hXX⟩
end Go.Proofs.YtbogcknkkbnfnaaDoor

/- Opening types and frames as arguments; the plain law of WordBelow. -/
namespace Go.Proofs.YtbogcknkkbnfnaaDoor
open Go.RowKit Go.WideShapes Go.Proofs.YtbogcknkkbnfnaaDoorW.PrintWords Go.Proofs.YtbogcknkkbnfnaaDoor.Op

def kT2 : Kd (Int × ByteArray) := Kd.pair (Kd.int .i64) Kd.string
def gT2 (t : Int × ByteArray) : Prop := (Lit.int .i64 t.1).wf = true ∧ t.2.size ≤ reachBytes
theorem opnT2 : Opn Tryd.prog kT2 24 gT2 :=
  opn_struct Tryd.underlying24 (by kernel_rfl) (by kernel_rfl) (by kernel_rfl) (opnS_cons (opn_int Tryd.underlying3) (opnS_one (opn_string Tryd.underlying9)))
def gWd (x : Wd) : Prop := (Lit.int .i64 x.k).wf = true ∧ gT2 (x.tk, x.tn)
theorem opnWd : Opn Tryd.prog kWd 35 gWd :=
  opn_iso (opn_struct Tryd.underlying35 (by kernel_rfl) (by kernel_rfl) (by kernel_rfl) (opnS_cons (opn_int Tryd.underlying3) (opnS_one opnT2))) (fun x : Wd => (x.k, x.tk, x.tn)) (fun p => ⟨p.1, p.2.1, p.2.2⟩) (fun _ => rfl)
def kWds : Kd (List Wd) := Kd.slice 35 kWd
def kFr : Kd (List Wd × List Wd) := Kd.pair kWds kWds
def gWds (l : List Wd) : Prop := l.length * Tryd.prog.bytesOf 35 ≤ reachBytes ∧ ∀ a ∈ l, gWd a
theorem opnWds : Opn Tryd.prog kWds 31 gWds := opn_slice Tryd.underlying31 (by kernel_rfl) opnWd
def gFr (f : List Wd × List Wd) : Prop := gWds f.1 ∧ gWds f.2
set_option maxRecDepth 20000 in
theorem opnFr : Opn Tryd.prog kFr 40 gFr :=
  opn_struct Tryd.underlying40 (by kernel_rfl) (by kernel_rfl) (by kernel_rfl) (opnS_cons opnWds (opnS_one opnWds))
def gFrs (l : List (List Wd × List Wd)) : Prop := l.length * Tryd.prog.bytesOf 40 ≤ reachBytes ∧ ∀ a ∈ l, gFr a
set_option maxRecDepth 20000 in
theorem opnFrs : Opn Tryd.prog (Kd.slice 40 kFr) 38 gFrs := opn_slice Tryd.underlying38 (by kernel_rfl) opnFr
set_option maxRecDepth 20000 in
theorem wds_ok {l : List Wd} (h : gWds l) : l.length ≤ 5864062014805 ∧ szW l := by
  obtain ⟨h1, h2⟩ := h
  have h3 : l.length * 32 ≤ 140737488351232 := h1
  refine ⟨by omega, fun x hx => ?_⟩
  have : x.tn.size ≤ 140737488351232 := (h2 x hx).2.2
  omega
section
variable {H : Type} {enc : TypeId × Value → H} {W : World} {v : Value} {d : DataW H} {p : List MemPlace} {r : Reach} {b : Nat}
set_option maxRecDepth 20000 in
theorem openT2 (hv : Value.okWide Tryd.prog W r b 24 v) (h : DataW.Trod enc Tryd.prog W 0 (fun _ => true) true 24 v d p) (hw : ∀ n ∈ DataW.weights Tryd.prog 24 d, n ≤ reachBytes) : ∃ t : Int × ByteArray, v = .agg #[.int .i64 t.1, .string t.2] ∧ gT2 t := by
  obtain ⟨t, cs, rfl, hk, hg⟩ := open_agg opnT2 (agg_struct Tryd.underlying24 hv) h hw
  refine ⟨t, ?_, hg⟩
  obtain ⟨c1, c2, e, h1, h2⟩ := hk
  obtain rfl : c1 = _ := h1
  obtain rfl : c2 = _ := h2
  rw [toArray_of e]
  rfl
set_option maxRecDepth 20000 in
theorem openFrs (hv : Value.okWide Tryd.prog W r b 38 v) (h : DataW.Trod enc Tryd.prog W 0 (fun _ => true) true 38 v d p) (hw : ∀ n ∈ DataW.weights Tryd.prog 38 d, n ≤ reachBytes) : ∃ A l c, v = .slice A l.length c ∧ l.length ≤ c ∧ Kd.C kFr W A l.length l ∧ gFrs l :=
  open_slice Tryd.underlying38 opnFrs hv h hw
end
/-- The plain law of WordBelow. -/
theorem below_own {L : List Cl} {k : Int} {n : ByteArray} (h3 : 3 ≤ k) (hm : mayT L k n = true) : fitsW L ⟨5, k, n⟩ k n = true := by
  unfold fitsW
  rw [if_neg (by omega), if_neg (by omega), if_neg (by unfold mayRefT; rw [decide_eq_true h3, hm]; decide)]
  have : belT L k n k n = true := by
    unfold belT
    rw [if_neg (by rw [hm]; simp; omega), if_pos (.inl ⟨rfl, rfl⟩)]
  simp [this]
theorem below_obj {L : List Cl} (N : Named L) {k : Int} {n : ByteArray} (h3 : 3 ≤ k) (hm : mayT L k n = true) : fitsW L ⟨5, k, n⟩ 3 ⟨#[79, 98, 106, 101, 99, 116]⟩ = true := by
  have ho : mayT L 3 ⟨#[79, 98, 106, 101, 99, 116]⟩ = true := by
    unfold mayT
    rw [if_pos (.inl rfl), ← N.obj, N.num 0 N.pos]
    rfl
  unfold fitsW
  rw [if_neg (by omega), if_neg (by omega), if_neg (by unfold mayRefT; rw [ho]; decide)]
  have : belT L k n 3 ⟨#[79, 98, 106, 101, 99, 116]⟩ = true := by
    unfold belT
    rw [if_neg (by rw [hm, ho]; simp; omega), if_pos (.inr ⟨rfl, rfl⟩)]
  simp [this]
theorem below_int {L : List Cl} {k : Int} {n : ByteArray} : fitsW L ⟨5, k, n⟩ 1 ⟨#[]⟩ = false := by
  unfold fitsW
  rw [if_pos ⟨rfl, rfl⟩]
  rfl
theorem below_long {L : List Cl} {k : Int} {n : ByteArray} : fitsW L ⟨5, k, n⟩ 2 ⟨#[]⟩ = false := by
  unfold fitsW
  rw [if_neg (by omega), if_pos ⟨rfl, rfl⟩]
  rfl
theorem below_any {L : List Cl} {k : Int} {n : ByteArray} (bk : Int) (bn : ByteArray) : fitsW L ⟨5, k, n⟩ bk bn = belT L k n bk bn := by
  unfold fitsW
  by_cases h1 : bk = 1 ∧ bn = ⟨#[]⟩
  · rw [if_pos h1]
    unfold belT
    rw [if_pos (.inr (.inr (.inr (by omega))))]
    rfl
  · rw [if_neg h1]
    by_cases h2 : bk = 2 ∧ bn = ⟨#[]⟩
    · rw [if_pos h2]
      unfold belT
      rw [if_pos (.inr (.inr (.inr (by omega))))]
      rfl
    · rw [if_neg h2]
      by_cases h3 : mayRefT L bk bn = false
      · rw [if_pos h3]
        unfold mayRefT at h3
        rw [Bool.and_eq_false_iff, decide_eq_false_iff_not] at h3
        unfold belT
        rcases h3 with h3 | h3
        · rw [if_pos (.inr (.inr (.inr (by omega))))]
        · rw [if_pos (.inr (.inl h3))]
      · rw [if_neg h3]
        simp
end Go.Proofs.YtbogcknkkbnfnaaDoor

