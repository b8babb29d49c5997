/- Texts laid as one: Me Mg Mh Mj Mk Mm Mn. -/
import Derived.Test.YtbogcknkkbnfnaaDoorMc
import Derived.BigQuiet
/- From what New has looked at: the plain law's premises. -/
namespace Go.Proofs.YtbogcknkkbnfnaaDoor
open Go.RowKit Go.Proofs.YtbogcknkkbnfnaaDoorW.PrintWords Go.Maps Go.WideMaps

theorem supF_at {L : List Cl} {i : Nat} (hi : i < L.length) : supF (supsL L L.length) i = supI L i := getD_range _ _ _ _ hi
theorem fsF_at {L : List Cl} {i : Nat} (hi : i < L.length) : (facesL L L.length).getD i [] = fsI L i := getD_range _ _ _ _ hi
theorem rch_of {S : List Int} {F : List (List Int)} {n : Nat} (hlt : ∀ i, i < n → ∀ j, Link.Step (supF S) (fsF F) i j → j < n) (hF : ∀ i, i < n → ∀ f ∈ F.getD i [], (0 : Int) ≤ f) {i j : Nat} (hi : i < n) (h : Link.Above (supF S) (fsF F) i j) : Rch S F i j := by
  have one : ∀ i k, i < n → Link.Step (supF S) (fsF F) i k → (k : Int) ∈ succI S F i := by
    intro i k hi h
    rcases h with h | h
    · rw [h]; exact List.mem_cons_self
    · obtain ⟨f, hf, rfl⟩ := List.mem_map.1 h
      have := hF i hi f hf
      rw [Int.toNat_of_nonneg this]
      exact List.mem_cons_of_mem _ hf
  obtain ⟨k, hs, hr⟩ := h
  have key : ∀ a b, Link.Reach (supF S) (fsF F) a b → ∀ i, i < n → Link.Step (supF S) (fsF F) i a → Rch S F i b := by
    intro a b h
    induction h with
    | refl a => intro i hi hs; exact .one (one i a hi hs)
    | step s _ ih => intro i hi hs; exact .more (one _ _ hi hs) (ih _ (hlt i hi _ hs) s)
  exact key k j hr i hi hs
theorem faces_nodup {L : List Cl} {xs : List Int} (h0 : ∀ f ∈ xs, (0 : Int) ≤ f) (h : ∀ k, k < xs.length → faceBadAt L xs k = false) : (xs.map Int.toNat).Nodup := by
  rw [List.Nodup, List.pairwise_map, List.pairwise_iff_getElem]
  intro a b ha hb hab e
  have h1 := h b hb
  unfold faceBadAt at h1
  rw [Bool.or_eq_false_iff] at h1
  have h2 := h1.2
  have hxa := h0 _ (List.getElem_mem ha)
  have hxb := h0 _ (List.getElem_mem hb)
  have e2 : xs[a] = xs[b] := by omega
  rw [List.getD_eq_getElem?_getD, List.getElem?_eq_getElem hb, Option.getD_some, ← e2] at h2
  have h3 : (xs.take b).contains xs[a] = true := by
    rw [List.contains_iff_mem]
    exact List.mem_take_iff_getElem.2 ⟨a, by omega, rfl⟩
  rw [h3] at h2
  cases h2
open Classical in
theorem ringP_not {S : List Int} {F : List (List Int)} {i : Nat} (h : ringP S F i = true) : ¬ Rch S F i i := by
  intro hr
  unfold ringP ringB at h
  rw [decide_eq_true hr] at h
  cases h
theorem goodSet_of {L : List Cl} (h8 : 0 < L.length) (hu : firstNo L (upFit L (supsL L L.length)) = none) (hf : firstNo L (facesP L (facesL L L.length)) = none) (hr : firstNo L (ringP (supsL L L.length) (facesL L L.length)) = none) : GoodSet L.length L (supsL L L.length) (facesL L L.length) := by
  have hup := firstNo_all hu
  have hfa := firstNo_all hf
  have hri := firstNo_all hr
  have sup_lt : ∀ i, 0 < i → i < L.length → 0 ≤ supF (supsL L L.length) i ∧ supF (supsL L L.length) i < L.length := by
    intro i h0 hi
    rw [supF_at hi]
    unfold supI
    rw [if_neg (by omega)]
    exact numI_range L _ h8
  have sup0 : supF (supsL L L.length) 0 = -1 := by rw [supF_at h8]; rfl
  have hF : ∀ i, i < L.length → ∀ f ∈ (facesL L L.length).getD i [], (0 : Int) ≤ f ∧ f < L.length := by
    intro i hi f hf
    rw [fsF_at hi] at hf
    obtain ⟨s, _, rfl⟩ := List.mem_map.1 hf
    exact numI_range L s h8
  have fs_lt : ∀ i, i < L.length → ∀ f ∈ fsF (facesL L L.length) i, f < L.length := by
    intro i hi f hf
    obtain ⟨x, hx, rfl⟩ := List.mem_map.1 hf
    have := hF i hi x hx
    omega
  have hus : ∀ i, 0 < i → i < L.length → faceAt L (supF (supsL L L.length) i) = false ∧ ((L.getD i zCl).face = false ∨ supF (supsL L L.length) i = 0) := by
    intro i h0 hi
    have h1 := hup i hi
    have h2 := sup_lt i h0 hi
    unfold upFit at h1
    change ((supF (supsL L L.length) i == -1) || (!faceAt L (supF (supsL L L.length) i) && (!(L.getD i zCl).face || supF (supsL L L.length) i == 0))) = true at h1
    have hne : (supF (supsL L L.length) i == -1) = false := by
      rw [beq_eq_false_iff_ne]
      omega
    rw [hne, Bool.false_or, Bool.and_eq_true, Bool.or_eq_true] at h1
    refine ⟨by simpa using h1.1, h1.2.imp (fun h => by simpa using h) (fun h => by simpa using h)⟩
  have hff : ∀ i, i < L.length → ∀ k, k < ((facesL L L.length).getD i []).length → faceBadAt L ((facesL L L.length).getD i []) k = false := by
    intro i hi k hk
    have h1 : faceFit L ((facesL L L.length).getD i []) = true := hfa i hi
    unfold faceFit at h1
    rw [List.all_eq_true] at h1
    have := h1 k (by simpa using hk)
    simpa using this
  refine ⟨h8, sup0, sup_lt, fs_lt, fun i h0 hi => ?_, fun i h0 hi hfi => ?_, fun i hi f hf => ?_, fun i hi => ?_, fun i hi hab => ?_⟩
  · exact (hus i h0 hi).1
  · rcases (hus i h0 hi).2 with h | h
    · rw [show faceF L i = false from h] at hfi; cases hfi
    · exact h
  · obtain ⟨x, hx, rfl⟩ := List.mem_map.1 hf
    obtain ⟨k, hk⟩ := List.getElem?_of_mem hx
    have hk2 := (List.getElem?_eq_some_iff.1 hk).1
    have h1 := hff i hi k hk2
    unfold faceBadAt at h1
    rw [Bool.or_eq_false_iff, List.getD_eq_getElem?_getD, hk] at h1
    have := h1.1
    show (L.getD x.toNat zCl).face = true
    simpa [faceAt] using this
  · exact faces_nodup (fun f hf => (hF i hi f hf).1) (hff i hi)
  · have hlt : ∀ i, i < L.length → ∀ j, Link.Step (supF (supsL L L.length)) (fsF (facesL L L.length)) i j → j < L.length := by
      intro i hi j hs
      rcases hs with hs | hs
      · by_cases h0 : i = 0
        · subst h0; rw [sup0] at hs; omega
        · have := sup_lt i (by omega) hi; omega
      · exact fs_lt i hi j hs
    have h1 := rch_of hlt (fun i hi f hf => (hF i hi f hf).1) hi hab
    exact ringP_not (hri i hi) h1
end Go.Proofs.YtbogcknkkbnfnaaDoor

/- A set, as New leaves it. -/
namespace Go.Proofs.YtbogcknkkbnfnaaDoor
open Go.RowKit Go.Proofs.YtbogcknkkbnfnaaDoorW.PrintWords Go.Maps Go.WideMaps

/-- A set of the classes L lies at p, in memory from B on. -/
structure IsSet (B p : Nat) (L : List Cl) (w : World) : Prop where
  ex : ∃ m cV sV fV aV, B ≤ p ∧ B ≤ m ∧ w.heap[p]? = some (.cells #[cV, .map (some m), sV, fV, aV] 92 (0, 0)) ∧ kCl.R 57 w B (fun _ => True) cV L ∧ MapAt w m L ∧
    kI.R 3 w B (fun _ => True) sV (supsL L L.length) ∧ kIs.R 75 w B (fun _ => True) fV (facesL L L.length) ∧ kIs.R 75 w B (fun _ => True) aV (aboves L.length (supsL L L.length) (facesL L L.length) L.length)
  big : 8 ≤ L.length ∧ L.length ≤ 72
  ok : ∀ x ∈ L, clOk x
  good : GoodSet L.length L (supsL L L.length) (facesL L L.length)
theorem IsSet.move {B p : Nat} {L : List Cl} {w w' : World} (h : IsSet B p L w) (hm : ∀ k, B ≤ k → k < w.heap.size → w'.heap[k]? = w.heap[k]?) : IsSet B p L w' := by
  obtain ⟨m, cV, sV, fV, aV, h1, h2, h3, h4, h5, h6, h7, h8⟩ := h.ex
  have key : ∀ {α : Type} {d : Kd α} {e : Nat} {v : Value} {xs : List α}, d.R e w B (fun _ => True) v xs → d.R e w' B (fun _ => True) v xs := fun h => Kd.R_mono (Kd.R_step (Kd.R_bound h) (fun k hk hlt => hm k hk.2.1 hlt)) (fun _ _ => trivial)
  exact ⟨⟨m, cV, sV, fV, aV, h1, h2, (hm p h1 (blk_lt h3)).trans h3, key h4, h5.move (hm m h2 h5.lt), key h6, key h7, key h8⟩, h.big, h.ok, h.good⟩
theorem IsSet.step {B p : Nat} {L : List Cl} {w w' : World} (h : IsSet B p L w) (hb : Below w.heap.size w w') : IsSet B p L w' := h.move (fun k _ hk => hb.block k hk)
theorem IsSet.lt {B p : Nat} {L : List Cl} {w : World} (h : IsSet B p L w) : p < w.heap.size := by
  obtain ⟨m, cV, sV, fV, aV, h1, h2, h3, _⟩ := h.ex
  exact blk_lt h3
theorem IsSet.base {B p : Nat} {L : List Cl} {w : World} (h : IsSet B p L w) : B ≤ p := by
  obtain ⟨m, cV, sV, fV, aV, h1, h2, h3, _⟩ := h.ex
  exact h1
/-- .. as it is read. -/
theorem IsSet.sv {B p : Nat} {L : List Cl} {w : World} (h : IsSet B p L w) : ∃ g cap m gs cs gf cf ga ca, SV p g L.length cap m gs cs gf cf (.slice (some ⟨ga, 0, none⟩) L.length ca) L (supsL L L.length) (facesL L L.length) w ∧ kIs.C w (some ⟨ga, 0, none⟩) L.length (aboves L.length (supsL L L.length) (facesL L L.length) L.length) := by
  obtain ⟨m, cV, sV, fV, aV, h1, h2, hb, hr, hM, hsu, hfa, hab⟩ := h.ex
  have hB := h.big
  have l1 : (supsL L L.length).length = L.length := by simp [supsL]
  have l2 : (facesL L L.length).length = L.length := by simp [facesL]
  have l3 : (aboves L.length (supsL L L.length) (facesL L L.length) L.length).length = L.length := by simp [aboves]
  have h0 : 0 < L.length := by omega
  obtain ⟨g, cap, hc, _⟩ := Kd.R_form hr h0
  obtain ⟨gs, cs, hs, _⟩ := Kd.R_form hsu (by omega)
  obtain ⟨gf, cf, hf, _⟩ := Kd.R_form hfa (by omega)
  obtain ⟨ga, ca, ha, _⟩ := Kd.R_form hab (by omega)
  rw [l1] at hs
  rw [l2] at hf
  rw [l3] at ha
  rw [hc, hs, hf, ha] at hb
  rw [hc] at hr
  rw [hs] at hsu
  rw [hf] at hfa
  rw [ha] at hab
  have k1 := (Kd.R_reads' hr).2.2
  have k2 := (Kd.R_reads' hsu).2.2
  have k3 := (Kd.R_reads' hfa).2.2
  have k4 := (Kd.R_reads' hab).2.2
  rw [l1] at k2
  rw [l2] at k3
  rw [l3] at k4
  refine ⟨g, cap, m, gs, cs, gf, cf, ga, ca, ⟨hb, rfl, l1, l2, hB.2, k1, hM, k2, k3, fun i hi => ?_, fun i hi => ?_⟩, k4⟩
  · rw [supsL, getD_range _ _ _ _ hi]
    unfold supI
    split
    · exact .inl rfl
    · exact .inr (numI_range L _ h0)
  · rw [facesL, getD_range _ _ _ _ hi]
    unfold fsI
    have hx : L.getD i zCl ∈ L := by simp [List.getD, hi]
    have := (h.ok _ hx).2.2.1
    refine ⟨by rw [List.length_map]; omega, fun f hf => ?_⟩
    obtain ⟨s, _, rfl⟩ := List.mem_map.1 hf
    exact numI_range L s h0
/-- What lists leaves is a set. -/
theorem IsSet.of {w0 w1 w : World} {p m : Nat} {cV sV fV aV : Value} {L : List Cl} {b1 : Nat} (hp : w0.heap.size ≤ p) (hm : w0.heap.size ≤ m) (hJ : JSt w0 p m cV L sV (supsL L L.length) fV (facesL L L.length) w1) (hL : LSt w0 w1 p b1 cV (.map (some m)) sV fV (aboves L.length (supsL L L.length) (facesL L L.length) L.length) aV w)
    (hbig : 8 ≤ L.length ∧ L.length ≤ 72) (hok : ∀ x ∈ L, clOk x) (G : GoodSet L.length L (supsL L L.length) (facesL L L.length)) : IsSet w0.heap.size p L w :=
  ⟨⟨m, cV, sV, fV, aV, hp, hm, hL.blk, KpB.row hL.kp hJ.row hJ.blk (by decide), hJ.map.move (hL.kp.block m hJ.map.lt (hJ.map.notCells hJ.blk)), KpB.row hL.kp hJ.sup hJ.blk (by decide), Kd.R_mono (KpB.row hL.kp hJ.faces hJ.blk (by decide)) (fun _ _ => trivial), Kd.R_lower hL.row hJ.below.size⟩, hbig, hok, G⟩
end Go.Proofs.YtbogcknkkbnfnaaDoor

/- A set's methods. -/
namespace Go.Proofs.YtbogcknkkbnfnaaDoor
open Go.RowKit Go.Proofs.YtbogcknkkbnfnaaDoorW.PrintWords Go.Maps Go.WideMaps

section
variable {B p : Nat} {L : List Cl} {w : World}
set_option maxRecDepth 100000 in
set_option maxHeartbeats 4000000 in
theorem has_any (h : IsSet B p L w) (i : Int) : Calls Tryd.prog 64 #[.pointer (some ⟨p, 0, none⟩), .int .i64 i] w fun e w' => e = .returned (.bool (decide (0 ≤ i ∧ i < L.length))) ∧ w' = w := by
  obtain ⟨g, cap, m, gs, cs, gf, cf, ga, ca, hV, hA⟩ := h.sv
  have hn := hV.big
  have c0 := blk_cell hV.blk 0
  clear h hV hA
  by_cases h0 : 0 ≤ i
  · by_cases h1 : i < (L.length : Int)
    · have HD : decide (0 ≤ i ∧ i < (L.length : Int)) = true := decide_eq_true ⟨h0, h1⟩
      rw [HD]
      clear HD
      generalize L.length = N at *
      go_enter Tryd.func64, Tryd.ntmps64
      go_wp2
      go_ret
      exact ⟨rfl, rfl⟩
    · have HD : decide (0 ≤ i ∧ i < (L.length : Int)) = false := decide_eq_false (fun h => h1 h.2)
      rw [HD]
      clear HD
      generalize L.length = N at *
      go_enter Tryd.func64, Tryd.ntmps64
      go_wp2
      go_ret
      exact ⟨rfl, rfl⟩
  · have HD : decide (0 ≤ i ∧ i < (L.length : Int)) = false := decide_eq_false (fun h => h0 h.1)
    rw [HD]
    clear HD
    generalize L.length = N at *
    go_enter Tryd.func64, Tryd.ntmps64
    go_wp2
    go_ret
    exact ⟨rfl, rfl⟩
theorem hasIn (h : IsSet B p L w) {i : Nat} (hi : i < L.length) : Calls Tryd.prog 64 #[.pointer (some ⟨p, 0, none⟩), .int .i64 i] w fun e w' => e = .returned (.bool true) ∧ w' = w := by
  have := has_any h i
  rw [decide_eq_true (⟨by omega, by omega⟩ : (0 : Int) ≤ i ∧ (i : Int) < L.length)] at this
  exact this
theorem hasOut (h : IsSet B p L w) {i : Int} (hi : ¬ (0 ≤ i ∧ i < L.length)) : Calls Tryd.prog 64 #[.pointer (some ⟨p, 0, none⟩), .int .i64 i] w fun e w' => e = .returned (.bool false) ∧ w' = w := by
  have := has_any h i
  rw [decide_eq_false hi] at this
  exact this
set_option maxRecDepth 100000 in
set_option maxHeartbeats 4000000 in
theorem len_any (h : IsSet B p L w) : Calls Tryd.prog 18 #[.pointer (some ⟨p, 0, none⟩)] w fun e w' => e = .returned (.int .i64 L.length) ∧ w' = w := by
  obtain ⟨g, cap, m, gs, cs, gf, cf, ga, ca, hV, hA⟩ := h.sv
  have hn := hV.big
  have c0 := blk_cell hV.blk 0
  clear h hV hA
  generalize L.length = N at *
  go_enter Tryd.func18, Tryd.ntmps18
  go_wp2
  go_ret
  exact ⟨rfl, rfl⟩
set_option maxRecDepth 100000 in
set_option maxHeartbeats 4000000 in
theorem name_in (h : IsSet B p L w) {i : Nat} (hi : i < L.length) : Calls Tryd.prog 37 #[.pointer (some ⟨p, 0, none⟩), .int .i64 i] w fun e w' => e = .returned (.string (L.getD i zCl).name) ∧ w' = w := by
  have HH := hid (hasIn h hi)
  obtain ⟨g, cap, m, gs, cs, gf, cf, ga, ca, hV, hA⟩ := h.sv
  have hn := hV.big
  have c0 := blk_cell hV.blk 0
  obtain ⟨e, hE, _, d1, _⟩ := el_at hV.row i hi
  have HE := hid hE.n
  have li : (i : Int) < L.length := by omega
  clear h hV hA hE
  generalize L.length = N at *
  go_enter Tryd.func37, Tryd.ntmps37
  go_wp2_with (go_at_call 64; refine HH.out.mono ?_; rintro e w' ⟨rfl, rfl⟩)
  go_ret
  exact ⟨by rw [← HE.out]; rfl, rfl⟩
set_option maxRecDepth 100000 in
set_option maxHeartbeats 4000000 in
theorem name_out (h : IsSet B p L w) {i : Int} (hi : ¬ (0 ≤ i ∧ i < L.length)) : Calls Tryd.prog 37 #[.pointer (some ⟨p, 0, none⟩), .int .i64 i] w fun e w' => e = .returned (.string ⟨#[]⟩) ∧ w' = w := by
  have HH := hid (hasOut h hi)
  clear h hi
  go_enter Tryd.func37, Tryd.ntmps37
  go_wp2_with (go_at_call 64; refine HH.out.mono ?_; rintro e w' ⟨rfl, rfl⟩)
  go_ret
  exact ⟨rfl, rfl⟩
set_option maxRecDepth 100000 in
set_option maxHeartbeats 4000000 in
theorem super_in (h : IsSet B p L w) {i : Nat} (hi : i < L.length) : Calls Tryd.prog 24 #[.pointer (some ⟨p, 0, none⟩), .int .i64 i] w fun e w' => e = .returned (.int .i64 (supF (supsL L L.length) i)) ∧ w' = w := by
  have HH := hid (hasIn h hi)
  obtain ⟨g, cap, m, gs, cs, gf, cf, ga, ca, hV, hA⟩ := h.sv
  have hn := hV.big
  have c2 := blk_cell hV.blk 2
  have d1 := hV.supAt i hi
  have li : (i : Int) < L.length := by omega
  have HE := hid (show supF (supsL L L.length) i = (supsL L L.length).getD i 0 from rfl)
  rw [HE.out]
  clear h hV hA
  generalize (supsL L L.length).getD i 0 = s at *
  generalize L.length = N at *
  go_enter Tryd.func24, Tryd.ntmps24
  go_wp2_with (go_at_call 64; refine HH.out.mono ?_; rintro e w' ⟨rfl, rfl⟩)
  go_ret
  exact ⟨rfl, rfl⟩
set_option maxRecDepth 100000 in
set_option maxHeartbeats 4000000 in
theorem super_out (h : IsSet B p L w) {i : Int} (hi : ¬ (0 ≤ i ∧ i < L.length)) : Calls Tryd.prog 24 #[.pointer (some ⟨p, 0, none⟩), .int .i64 i] w fun e w' => e = .returned (.int .i64 (-1)) ∧ w' = w := by
  have HH := hid (hasOut h hi)
  clear h hi
  go_enter Tryd.func24, Tryd.ntmps24
  go_wp2_with (go_at_call 64; refine HH.out.mono ?_; rintro e w' ⟨rfl, rfl⟩)
  go_ret
  exact ⟨rfl, rfl⟩
set_option maxRecDepth 100000 in
set_option maxHeartbeats 4000000 in
theorem ifaces_in (h : IsSet B p L w) {i : Nat} (hi : i < L.length) : Calls Tryd.prog 36 #[.pointer (some ⟨p, 0, none⟩), .int .i64 i] w fun e w' => ∃ v, e = .returned v ∧ kI.R 3 w' w.heap.size (fun _ => True) v ((facesL L L.length).getD i []) ∧ Below w.heap.size w w' := by
  have HH := hid (hasIn h hi)
  obtain ⟨g, cap, m, gs, cs, gf, cf, ga, ca, hV, hA⟩ := h.sv
  have hn := hV.big
  have c3 := blk_cell hV.blk 3
  obtain ⟨A, c, d1, hlc, hC⟩ := hV.facesAt i hi
  have hb : ((facesL L L.length).getD i []).length * 8 ≤ 140737488355328 := by
    have hx : L.getD i zCl ∈ L := by simp [List.getD, hi]
    have := (h.ok _ hx).2.2.1
    rw [fsF_at hi]
    unfold fsI
    rw [List.length_map]
    omega
  have HC := hid (cloneInt_any A c _ w hC hb)
  have li : (i : Int) < L.length := by omega
  clear h hV hA hC
  generalize (facesL L L.length).getD i [] = fs at *
  generalize L.length = N at *
  go_enter Tryd.func36, Tryd.ntmps36
  go_wp2_with (first | (go_at_call 64; refine HH.out.mono ?_; rintro e w' ⟨rfl, rfl⟩) | (go_at_call 67; refine HC.out.mono ?_; rintro e w' ⟨v, rfl, hR, hB⟩; have HR := hid hR; have HB := hid hB; clear hR hB))
  go_ret
  exact ⟨v, rfl, HR.out, HB.out⟩
set_option maxRecDepth 100000 in
set_option maxHeartbeats 4000000 in
theorem ifaces_out (h : IsSet B p L w) {i : Int} (hi : ¬ (0 ≤ i ∧ i < L.length)) : Calls Tryd.prog 36 #[.pointer (some ⟨p, 0, none⟩), .int .i64 i] w fun e w' => e = .returned (.slice none 0 0) ∧ w' = w := by
  have HH := hid (hasOut h hi)
  clear h hi
  go_enter Tryd.func36, Tryd.ntmps36
  go_wp2_with (go_at_call 64; refine HH.out.mono ?_; rintro e w' ⟨rfl, rfl⟩)
  go_ret
  exact ⟨rfl, rfl⟩
/-- What stands above a class, as it lies. -/
theorem IsSet.aboveAt (h : IsSet B p L w) {i : Nat} (hi : i < L.length) : ∃ ga ca A c, w.cell? ⟨p, 4, none⟩ = some (.slice (some ⟨ga, 0, none⟩) L.length ca) ∧ w.cell? ⟨ga, i, none⟩ = some (.slice A (Link.aboveL L.length (supF (supsL L L.length)) (fsF (facesL L L.length)) i).length c) ∧
    (Link.aboveL L.length (supF (supsL L L.length)) (fsF (facesL L L.length)) i).length ≤ c ∧ kI.C w A (Link.aboveL L.length (supF (supsL L L.length)) (fsF (facesL L L.length)) i).length (ints (Link.aboveL L.length (supF (supsL L L.length)) (fsF (facesL L L.length)) i)) := by
  obtain ⟨g, cap, m, gs, cs, gf, cf, ga, ca, hV, hA⟩ := h.sv
  have e0 : (aboves L.length (supsL L L.length) (facesL L L.length) L.length).getD i [] = ints (Link.aboveL L.length (supF (supsL L L.length)) (fsF (facesL L L.length)) i) := getD_range _ _ _ _ hi
  obtain ⟨ad, cc, e, _, hK, hc0⟩ := Kd.C_get hA ([] : List Int) (i : Int) (by omega) (by omega)
  cases e
  have hc : ∀ j u, cc[j]? = some u → w.cell? ((⟨ga, 0, none⟩ : Addr).add ((i : Int).toNat * 1 + j)) = some u := hc0
  obtain ⟨A0, c0, rfl, l0, g0⟩ := hK
  rw [Int.toNat_natCast] at l0 g0
  rw [e0] at l0 g0
  have hl : (ints (Link.aboveL L.length (supF (supsL L L.length)) (fsF (facesL L L.length)) i)).length = (Link.aboveL L.length (supF (supsL L L.length)) (fsF (facesL L L.length)) i).length := by simp [ints]
  refine ⟨ga, ca, A0, c0, blk_cell hV.blk 4, ?_, by rw [← hl]; exact l0, by rw [← hl]; exact g0⟩
  have := hc 0 _ rfl
  rw [add_plain] at this
  rw [Int.toNat_natCast, e0, hl] at this
  simpa using this
end
end Go.Proofs.YtbogcknkkbnfnaaDoor

/- A set's methods: what stands above. -/
namespace Go.Proofs.YtbogcknkkbnfnaaDoor
open Go.RowKit Go.Proofs.YtbogcknkkbnfnaaDoorW.PrintWords Go.Maps Go.WideMaps

/-- All above a class, as the plain law has it. -/
def aboveOf (L : List Cl) (i : Nat) : List Nat := Link.aboveL L.length (supF (supsL L L.length)) (fsF (facesL L L.length)) i
def commonOf (L : List Cl) (a b : Nat) : Int := Link.commonL L.length (supF (supsL L L.length)) a b
theorem fold_fit {N : Nat} {L : List Cl} {S : List Int} {F : List (List Int)} (G : GoodSet N L S F) (d : Nat) : ∀ (f : Nat) (out : List Nat), f < N → Fit N out → Fit N (Link.addF (fsF F) d out f) := by
  induction d with
  | zero => intro f out _ h; exact h
  | succ d ih =>
    intro f out hf h
    simp only [Link.addF]
    split
    · exact h
    · rename_i hin
      have key : ∀ (l : List Nat) (out : List Nat), (∀ g ∈ l, g ∈ fsF F f) → Fit N out → Fit N (l.foldl (Link.addF (fsF F) d) out) := by
        intro l
        induction l with
        | nil => intro out _ h; exact h
        | cons a l ihl => intro out hl h; exact ihl _ (fun g hg => hl g (List.mem_cons_of_mem _ hg)) (ih a out (G.fs_lt f hf a (hl a List.mem_cons_self)) h)
      exact key _ _ (fun g hg => hg) (h.put hf hin)
theorem above_fit {N : Nat} {L : List Cl} {S : List Int} {F : List (List Int)} (G : GoodSet N L S F) {i : Nat} (hi : i < N) : Fit N (Link.aboveL N (supF S) (fsF F) i) := by
  unfold Link.aboveL
  have inner : ∀ k, k < N → ∀ (l : List Nat) (out : List Nat), (∀ g ∈ l, g ∈ fsF F k) → Fit N out → Fit N (l.foldl (Link.addF (fsF F) (N + 2)) out) := by
    intro k hk l
    induction l with
    | nil => intro out _ h; exact h
    | cons a l ihl => intro out hl h; exact ihl _ (fun g hg => hl g (List.mem_cons_of_mem _ hg)) (fold_fit G (N + 2) a out (G.fs_lt k hk a (hl a List.mem_cons_self)) h)
  have outer : ∀ (l : List Nat) (out : List Nat), (∀ k ∈ l, k < N) → Fit N out → Fit N (l.foldl (fun out k => (fsF F k).foldl (Link.addF (fsF F) (N + 2)) out) out) := by
    intro l
    induction l with
    | nil => intro out _ h; exact h
    | cons a l ihl => intro out hl h; exact ihl _ (fun g hg => hl g (List.mem_cons_of_mem _ hg)) (inner a (hl a List.mem_cons_self) _ _ (fun g hg => hg) h)
  exact outer _ _ (fun k hk => G.chain_lt hi hk) (chain_fit G hi)
theorem aboveOf_fit {B p : Nat} {L : List Cl} {w : World} (h : IsSet B p L w) {i : Nat} (hi : i < L.length) : Fit L.length (aboveOf L i) := above_fit h.good hi
theorem ints_len (l : List Nat) : (ints l).length = l.length := by simp [ints]
theorem ints_contains (l : List Nat) (x : Nat) : (ints l).contains (x : Int) = decide (x ∈ l) := by
  rw [Bool.eq_iff_iff]
  simp [ints]
  constructor
  · rintro ⟨a, ha, e⟩
    have : a = x := by omega
    rw [← this]; exact ha
  · intro h
    exact ⟨x, h, rfl⟩
section
variable {B p : Nat} {L : List Cl} {w : World}
theorem hasQ (h : IsSet B p L w) (i : Int) (b : Bool) (hb : decide (0 ≤ i ∧ i < L.length) = b) : Calls Tryd.prog 64 #[.pointer (some ⟨p, 0, none⟩), .int .i64 i] w fun e w' => e = .returned (.bool b) ∧ w' = w := by
  rw [← hb]
  exact has_any h i
theorem inD {a N : Nat} (h : a < N) : decide ((0 : Int) ≤ a ∧ (a : Int) < N) = true := decide_eq_true ⟨by omega, by omega⟩
set_option maxRecDepth 100000 in
set_option maxHeartbeats 4000000 in
theorem above_in (h : IsSet B p L w) {i : Nat} (hi : i < L.length) : Calls Tryd.prog 32 #[.pointer (some ⟨p, 0, none⟩), .int .i64 i] w fun e w' => ∃ v, e = .returned v ∧ kI.R 3 w' w.heap.size (fun _ => True) v (ints (aboveOf L i)) ∧ Below w.heap.size w w' := by
  have HH := hid (hasIn h hi)
  obtain ⟨ga, ca, A, c, c4, d1, hlc, hC⟩ := h.aboveAt hi
  have hf := (aboveOf_fit h hi).len
  have hbig := h.big
  change w.cell? ⟨ga, i, none⟩ = some (.slice A (aboveOf L i).length c) at d1
  change kI.C w A (aboveOf L i).length (ints (aboveOf L i)) at hC
  have HC := hid (show Calls _ _ #[.slice A (aboveOf L i).length c] w _ from by
    have hC2 : (Kd.int .i64).C w A (ints (aboveOf L i)).length (ints (aboveOf L i)) := by rw [ints_len]; exact hC
    have := cloneInt_any A c (ints (aboveOf L i)) w hC2 (by rw [ints_len]; omega)
    rw [ints_len] at this
    exact this)
  have li : (i : Int) < L.length := by omega
  clear h hC hlc
  generalize aboveOf L i = ab at *
  generalize L.length = N at *
  go_enter Tryd.func32, Tryd.ntmps32
  go_wp2_with (first | (go_at_call 64; refine HH.out.mono ?_; rintro e w' ⟨rfl, rfl⟩) | (go_at_call 67; refine HC.out.mono ?_; rintro e w' ⟨v, rfl, hR, hB⟩; have HR := hid hR; have HB := hid hB; clear hR hB))
  go_ret
  exact ⟨v, rfl, HR.out, HB.out⟩
set_option maxRecDepth 100000 in
set_option maxHeartbeats 4000000 in
theorem above_out (h : IsSet B p L w) {i : Int} (hi : ¬ (0 ≤ i ∧ i < L.length)) : Calls Tryd.prog 32 #[.pointer (some ⟨p, 0, none⟩), .int .i64 i] w fun e w' => e = .returned (.slice none 0 0) ∧ w' = w := by
  have HH := hid (hasOut h hi)
  clear h hi
  go_enter Tryd.func32, Tryd.ntmps32
  go_wp2_with (go_at_call 64; refine HH.out.mono ?_; rintro e w' ⟨rfl, rfl⟩)
  go_ret
  exact ⟨rfl, rfl⟩
set_option maxRecDepth 100000 in
set_option maxHeartbeats 4000000 in
theorem below_in (h : IsSet B p L w) {a b : Nat} (ha : a < L.length) (hb : b < L.length) : Calls Tryd.prog 31 #[.pointer (some ⟨p, 0, none⟩), .int .i64 a, .int .i64 b] w fun e w' => e = .returned (.bool (decide (b ∈ aboveOf L a))) ∧ w' = w := by
  have HH := hid (hasQ h)
  have q1 := inD ha
  have q2 := inD hb
  obtain ⟨ga, ca, A, c, c4, d1, hlc, hC⟩ := h.aboveAt ha
  have hf := (aboveOf_fit h ha).len
  have hbig := h.big
  change w.cell? ⟨ga, a, none⟩ = some (.slice A (aboveOf L a).length c) at d1
  change kI.C w A (aboveOf L a).length (ints (aboveOf L a)) at hC
  have HC := hid (show Calls _ _ #[.slice A (aboveOf L a).length c, .int .i64 b] w _ from by
    have hC2 : kI.C w A (ints (aboveOf L a)).length (ints (aboveOf L a)) := by rw [ints_len]; exact hC
    have := contains_any A c (ints (aboveOf L a)) (b : Int) w hC2 (by rw [ints_len]; omega)
    rw [ints_len, ints_contains] at this
    exact this)
  have li : (a : Int) < L.length := by omega
  clear h hC hlc
  generalize decide (b ∈ aboveOf L a) = r at *
  generalize aboveOf L a = ab at *
  generalize L.length = N at *
  have Q1 := hid q1
  have Q2 := hid q2
  clear q1 q2
  go_enter Tryd.func31, Tryd.ntmps31
  go_wp2_with (first | (go_at_call 64; refine (HH.out _ _ (by first | exact Q1.out | exact Q2.out)).mono ?_; rintro e w' ⟨rfl, rfl⟩) | (go_at_call 66; refine HC.out.mono ?_; rintro e w' ⟨rfl, rfl⟩))
  go_ret
  exact ⟨rfl, rfl⟩
set_option maxRecDepth 100000 in
set_option maxHeartbeats 4000000 in
theorem below_out1 (h : IsSet B p L w) {a b : Int} (ha : ¬ (0 ≤ a ∧ a < L.length)) : Calls Tryd.prog 31 #[.pointer (some ⟨p, 0, none⟩), .int .i64 a, .int .i64 b] w fun e w' => e = .returned (.bool false) ∧ w' = w := by
  have HH := hid (hasQ h)
  have q1 := decide_eq_false ha
  clear h ha
  have Q1 := hid q1
  clear q1
  go_enter Tryd.func31, Tryd.ntmps31
  go_wp2_with (go_at_call 64; refine (HH.out _ _ Q1.out).mono ?_; rintro e w' ⟨rfl, rfl⟩)
  go_ret
  exact ⟨rfl, rfl⟩
set_option maxRecDepth 100000 in
set_option maxHeartbeats 4000000 in
theorem below_out2 (h : IsSet B p L w) {a : Nat} {b : Int} (ha : a < L.length) (hb : ¬ (0 ≤ b ∧ b < L.length)) : Calls Tryd.prog 31 #[.pointer (some ⟨p, 0, none⟩), .int .i64 a, .int .i64 b] w fun e w' => e = .returned (.bool false) ∧ w' = w := by
  have HH := hid (hasQ h)
  have q1 := inD ha
  have q2 := decide_eq_false hb
  clear h ha hb
  have Q1 := hid q1
  have Q2 := hid q2
  clear q1 q2
  go_enter Tryd.func31, Tryd.ntmps31
  go_wp2_with (go_at_call 64; refine (HH.out _ _ (by first | exact Q1.out | exact Q2.out)).mono ?_; rintro e w' ⟨rfl, rfl⟩)
  go_ret
  exact ⟨rfl, rfl⟩
end
end Go.Proofs.YtbogcknkkbnfnaaDoor

/- A set's methods: the nearest class above both. -/
namespace Go.Proofs.YtbogcknkkbnfnaaDoor
open Go.RowKit Go.Proofs.YtbogcknkkbnfnaaDoorW.PrintWords Go.Maps Go.WideMaps

theorem find_at {l : List Nat} {P : Nat → Bool} {q k : Nat} (h : ∀ x ∈ l.take q, P x = false) (hq : l[q]? = some k) (hk : P k = true) : l.find? P = some k := by
  have hq2 := (List.getElem?_eq_some_iff.1 hq).1
  have e : l = l.take q ++ (k :: l.drop (q + 1)) := by
    have e1 : l[q] = k := (List.getElem?_eq_some_iff.1 hq).2
    rw [← e1, ← List.drop_eq_getElem_cons hq2, List.take_append_drop]
  rw [e, List.find?_append, List.find?_eq_none.2 (fun t ht => by rw [h t ht]; decide), List.find?_cons_of_pos hk]
  rfl
section
variable {B p : Nat} {L : List Cl} {w : World}
theorem chain_set (h : IsSet B p L w) {i : Nat} (hi : i < L.length) : Calls Tryd.prog 72 #[.pointer (some ⟨p, 0, none⟩), .int .i64 i] w fun e w' => ∃ A c, e = .returned (.slice A (Link.chainL L.length (supF (supsL L L.length)) i).length c) ∧ Below w.heap.size w w' ∧ kI.C w' A (Link.chainL L.length (supF (supsL L L.length)) i).length (ints (Link.chainL L.length (supF (supsL L L.length)) i)) := by
  obtain ⟨g, cap, m, gs, cs, gf, cf, ga, ca, hV, hA⟩ := h.sv
  refine (chain_any p g _ cap m gs cs gf cf _ L _ _ w hV h.good i hi).mono ?_
  rintro e wc ⟨v, rfl, hB, hR⟩
  obtain ⟨A', c', rfl⟩ := Kd.R_slice hR
  have h3 := (Kd.R_reads' hR).2.2
  rw [ints_len] at hR h3 ⊢
  exact ⟨A', c', rfl, hB, h3⟩
set_option maxRecDepth 100000 in
set_option maxHeartbeats 4000000 in
theorem common_in (h : IsSet B p L w) {a b : Nat} (ha : a < L.length) (hb : b < L.length) : Calls Tryd.prog 38 #[.pointer (some ⟨p, 0, none⟩), .int .i64 a, .int .i64 b] w fun e w' => e = .returned (.int .i64 (commonOf L a b)) ∧ Below w.heap.size w w' := by
  have HH := hid (hasQ h)
  have Q1 := hid (inD ha)
  have Q2 := hid (inD hb)
  obtain ⟨ch, hch⟩ : ∃ ch : Nat → List Nat, ch = fun i => Link.chainL L.length (supF (supsL L L.length)) i := ⟨_, rfl⟩
  have HC := hid (fun (i : Nat) (W : World) (hi : i < L.length) (hW : Below w.heap.size w W) => (show Calls Tryd.prog 72 #[.pointer (some ⟨p, 0, none⟩), .int .i64 i] W fun e w' => ∃ A c, e = .returned (.slice A (ch i).length c) ∧ Below W.heap.size W w' ∧ kI.C w' A (ch i).length (ints (ch i)) from by rw [hch]; exact chain_set (h.step hW) hi))
  have hbig := h.big
  have hfa : (ch a).length ≤ L.length := by rw [hch]; exact (chain_fit h.good ha).len
  have hfb : (ch b).length ≤ L.length := by rw [hch]; exact (chain_fit h.good hb).len
  have HCO := hid (show commonOf L a b = match (ch a).find? (fun k => decide (k ∈ ch b)) with | some k => (k : Int) | none => -1 by rw [hch]; rfl)
  generalize commonOf L a b = co at *
  clear h hch
  generalize L.length = N at *
  go_enter Tryd.func38, Tryd.ntmps38
  go_upto_region 5 with (first | (go_at_call 64; refine (HH.out _ _ (by first | exact Q1.out | exact Q2.out)).mono ?_; rintro e w' ⟨rfl, rfl⟩) | (go_at_call 72; refine (HC.out _ _ (by assumption) (by first | exact Below.refl _ _ | assumption)).mono ?_; rintro e wb ⟨Ab, cb, rfl, hBb, hCb⟩; have HCb := hid hCb; clear hCb))
  rename_i wq Aq cq hBq HCq _ _
  have HCb2 := hid (Kd.C_below HCq.out hBb)
  have HBT := hid (below_weaken hBq hBq.size hBb)
  clear hBq hBb HCq HC HH
  have HCC := hid (fun (x : Nat) => (show Calls Tryd.prog 66 #[.slice Aq (ch b).length cq, .int .i64 x] wb fun e w' => e = .returned (.bool (decide (x ∈ ch b))) ∧ w' = wb from by
    have hC2 : kI.C wb Aq (ints (ch b)).length (ints (ch b)) := by rw [ints_len]; exact HCb2.out
    have := contains_any Aq cq (ints (ch b)) (x : Int) wb hC2 (by rw [ints_len]; omega)
    rw [ints_len, ints_contains] at this
    exact this))
  have HCA := hid HCb.out
  clear HCb HCb2
  obtain ⟨M, hM⟩ : ∃ M, (ch a).length = M := ⟨_, rfl⟩
  rw [hM] at hfa HCA ⊢
  have HM := hid hM
  clear hM
  go_wp2
  go_loop [27] (fun v => ∃ q : Nat, q ≤ M ∧ v = .int .i64 q ∧ Hid (∀ x ∈ (ch a).take q, decide (x ∈ ch b) = false)) (fun v => M - (intOf v).toNat)
  case atStart => exact ⟨0, by omega, rfl, fun x hx => by simp at hx⟩
  obtain ⟨q, hq, rfl, HD⟩ := hrel
  by_cases hlt : q < M
  · have hce : (ch a)[q]? = some ((ch a)[q]'(by rw [HM.out]; exact hlt)) := List.getElem?_eq_getElem _
    obtain ⟨k, hk⟩ : ∃ k, (ch a)[q]? = some k := ⟨_, hce⟩
    have hC2 : kI.C wb Ab (ints (ch a)).length (ints (ch a)) := by rw [ints_len, HM.out]; exact HCA.out
    obtain ⟨b2, off2, hA⟩ := C_plain hC2 (by rw [ints_len, HM.out]; omega) (by decide)
    subst hA
    have d1 := C_scalar (h1 := fun _ => rfl) hC2 0 q (by rw [ints_len, HM.out]; exact hlt)
    rw [List.getD_eq_getElem?_getD, List.getElem?_map, hk] at d1
    simp only [Option.map_some, Option.getD_some] at d1
    have HK := hid hk
    have HX := hid (HCC.out k)
    clear hce hk hC2
    cases hin : decide (k ∈ ch b) with
    | true =>
      rw [hin] at HX
      have HF := hid (find_at (P := fun x => decide (x ∈ ch b)) HD.out HK.out hin)
      clear hin
      go_wp2_with (go_at_call 66; refine HX.out.mono ?_; rintro e w' ⟨rfl, rfl⟩)
      go_ret
      exact ⟨by rw [HCO.out, HF.out]; rfl, HBT.out⟩
    | false =>
      rw [hin] at HX
      have HF := hid hin
      clear hin
      go_wp2_with (go_at_call 66; refine HX.out.mono ?_; rintro e w' ⟨rfl, rfl⟩)
      go_round
      case rel => exact ⟨q + 1, by omega, by go_num, fun x hx => by
        rw [List.take_add_one, HK.out, List.mem_append] at hx
        rcases hx with hx | hx
        · exact HD.out x hx
        · simp at hx; rw [hx]; exact HF.out⟩
      case measure => simp [intOf]; omega
  · have HF := hid (show (ch a).find? (fun x => decide (x ∈ ch b)) = none from List.find?_eq_none.2 (fun x hx => by
      have := HD.out x (by rw [List.take_of_length_le (by rw [HM.out]; omega)]; exact hx)
      rw [this]; decide))
    go_wp2
    go_ret
    exact ⟨by rw [HCO.out, HF.out]; rfl, HBT.out⟩
end
end Go.Proofs.YtbogcknkkbnfnaaDoor

/- heads: classes' heads, in memory of their own. -/
namespace Go.Proofs.YtbogcknkkbnfnaaDoor
open Go.RowKit Go.Proofs.YtbogcknkkbnfnaaDoorW.PrintWords Go.Maps Go.WideMaps

def headOf (x : Cl) : Cl := ⟨zSl, x.name, x.super, x.face, x.faces, zSl, zSl⟩
theorem headOf_ok {x : Cl} (h : clOk x) : clOk (headOf x) := h
theorem el_at2 {w : World} {g off n : Nat} {L : List Cl} (h : kCl.C w (some ⟨g, off, none⟩) n L) (k : Nat) (hk : k < n) : ∃ e : El, ElCl w e (L.getD k zCl) ∧
    w.cell? ⟨g, off + k * 7 + 1, none⟩ = some (.string e.n) ∧ w.cell? ⟨g, off + k * 7 + 2, none⟩ = some (.string e.s) ∧ w.cell? ⟨g, off + k * 7 + 3, none⟩ = some (.bool e.b) ∧ w.cell? ⟨g, off + k * 7 + 4, none⟩ = some (.slice e.f.a e.f.n e.f.c) := by
  obtain ⟨hl, _, h3⟩ := h
  obtain ⟨ad, ea, h4⟩ := h3 (by omega)
  cases ea
  obtain ⟨c, hc, hK, h5⟩ := h4 k L[k] (List.getElem?_eq_getElem (by omega))
  obtain ⟨e, rfl, he⟩ := elCl_of hK
  have key : ∀ j u, e.cells[j]? = some u → w.cell? ⟨g, off + k * 7 + j, none⟩ = some u := fun j u hu => by
    have := h5 j u hu
    unfold Addr.add at this
    split at this
    · rename_i h0
      have e1 : k * 7 + j = 0 := h0
      have e2 : off + k * 7 + j = off := by omega
      rw [e2]
      exact this
    · have e2 : off + k * 7 + j = off + (k * 7 + j) := by omega
      rw [e2]
      exact this
  refine ⟨e, ?_, key 1 _ rfl, key 2 _ rfl, key 3 _ rfl, key 4 _ rfl⟩
  have : L.getD k zCl = L[k] := by simp [List.getD, show k < L.length by omega]
  rw [this]
  exact he
set_option maxRecDepth 100000 in
set_option maxHeartbeats 8000000 in
theorem heads_any (A : Option Addr) (c : Nat) (l : List Cl) (w : World) (hC : kCl.C w A l.length l) (hb : l.length ≤ 1034834473171) (hok : ∀ x ∈ l, clOk x) :
    Calls Tryd.prog 86 #[.slice A l.length c] w fun e w' => ∃ v, e = .returned v ∧ kCl.R 57 w' w.heap.size (fun _ => True) v (l.map headOf) ∧ Below w.heap.size w w' := by
  have HC := hid hC
  have HOK := hid hok
  obtain ⟨n, hn⟩ : ∃ n, l.length = n := ⟨_, rfl⟩
  rw [hn] at hb HC ⊢
  have HN := hid hn
  clear hC hok hn
  go_enter Tryd.func86, Tryd.ntmps86
  go_wp2
  go_loopw [3, 4] (fun oV iV wr => ∃ k : Nat, k ≤ n ∧ iV = .int .i64 k ∧ Hid (kCl.R 57 wr w.heap.size (fun _ => True) oV ((l.take k).map headOf)) ∧ Hid (Below w.heap.size w wr)) (fun _ iV _ => n - (intOf iV).toNat)
  case atStart => exact ⟨0, by omega, rfl, Kd.R_nil _ _ _ _ _, Below.refl _ _⟩
  obtain ⟨k, hk, rfl, HR, HB⟩ := hrel
  by_cases hlt : k < n
  · obtain ⟨b, off, hA⟩ := C_plain HC.out (by omega) (by decide)
    subst hA
    obtain ⟨e, hE, d1, d2, d3, d4⟩ := el_at2 (Kd.C_below HC.out HB.out) k hlt
    have hXL : l.getD k zCl ∈ l := by simp [List.getD, show k < l.length by rw [HN.out]; exact hlt]
    have HXO := hid (HOK.out _ hXL)
    have HLK := hid (show (l.take (k + 1)).map headOf = (l.take k).map headOf ++ [headOf (l.getD k zCl)] by
      rw [take_snoc_Cl (by rw [HN.out]; exact hlt), List.map_append]; rfl)
    generalize l.getD k zCl = x at *
    have HE := hid hE
    have zb := World.block_lt_of_cell? wr _ d1
    clear hE hXL
    go_wp2_with fail
    go_region
    have k5 := hid (blk_drew (blk_new wr (.cells #[.slice none 0 0, .string e.n, .string e.s, .bool e.b, .slice none 0 0, .slice none 0 0, .slice none 0 0] 57)))
    have hbw := below_drew (below_alloc (Below.refl wr.heap.size wr) (.cells #[.slice none 0 0, .string e.n, .string e.s, .bool e.b, .slice none 0 0, .slice none 0 0, .slice none 0 0] 57))
    have HBW := hid hbw
    have hzb := HB.out.size
    have HLT := hid (show ∀ j, u3.ownBlock = some j → j < wr.heap.size from Kd.R_lt HR.out)
    have hzw5 := hbw.size
    have HE5 := hid (HE.out.below hbw)
    have d5 := (hbw.cell (World.block_lt_of_cell? wr _ d4)).trans d4
    have zb5 : wr.heap.size < (wr.alloc (.cells #[.slice none 0 0, .string e.n, .string e.s, .bool e.b, .slice none 0 0, .slice none 0 0, .slice none 0 0] 57)).drew.heap.size := blk_lt k5.out
    have zbb : b < (wr.alloc (.cells #[.slice none 0 0, .string e.n, .string e.s, .bool e.b, .slice none 0 0, .slice none 0 0, .slice none 0 0] 57)).drew.heap.size := by omega
    clear d1 d2 d3 d4 hbw HE zb
    generalize (wr.alloc (.cells #[.slice none 0 0, .string e.n, .string e.s, .bool e.b, .slice none 0 0, .slice none 0 0, .slice none 0 0] 57)).drew = w5 at *
    have c4 := blk_cell k5.out 4
    have c4f := blk_frozen k5.out 4
    go_wp2_with fail
    go_region_law (first | (refine Kd.R_append_rows_step Kd.string (w0 := w5) w5.heap.size (by rfl) (.tmp 29) (.tmp 34) 53 9 _ 16 (by rfl) Tryd.underlying53 infoStr (by rfl) (by decide) (by decide) (.slice none 0 0) ([] : List ByteArray) x.faces _ _ _ (fun _ => True) (fun _ => False) (by rfl) (by rfl) (Kd.R_nil _ _ _ _ _) (by have := HE5.out.fC; rw [← HE5.out.fn] at this; exact this) (fun _ _ h => h) (fun _ h => h.elim) (fun _ _ => trivial) (below_drew (Below.refl _ _)) (by simp) (by simp; have := HXO.out.2.2.1; have := HE5.out.fn; omega) ?_; intro v1 w6 hR6 hB6 _ _; have HB6 := hid hB6; have k6 := hid (blk_below k5.out hB6); have HR6 := hid hR6; clear hR6 hB6; obtain ⟨A1, n1, c1, rfl⟩ := R_sl HR6.out; have x1 := blk_cell k6.out 4; have x2 := blk_frozen k6.out 4))
    all_goals
      have hb6 := below_weaken HBW.out hzw5 HB6.out
      have hz6 := HB6.out.size
      have HB7 := hid (hb6.setCell (p := ⟨wr.heap.size, 4, none⟩) (Nat.le_refl _) (.slice A1 n1 c1))
      have k7 := hid (blk_put k6.out 4 (.slice A1 n1 c1) rfl)
      have HR7 := hid (Kd.R_below HR.out HB7.out)
      have HM7 := hid (show kCl.M (w6.setCell ⟨wr.heap.size, 4, none⟩ (.slice A1 n1 c1)) w.heap.size (fun j => wr.heap.size ≤ j) (headOf x) [.slice none 0 0, .string e.n, .string e.s, .bool e.b, .slice A1 n1 c1, .slice none 0 0, .slice none 0 0] from by
        rw [HE5.out.n, HE5.out.s, HE5.out.b]
        refine mkCl_M _ _ _ (headOf x) _ ?_
        refine Kd.R_mono (Kd.R_lower (Kd.R_bound (Kd.R_set HR6.out k6.out (by decide) 4 _)) (by omega)) (fun j hj => ?_)
        have := hj.2.1
        omega)
      clear hb6 k6 k5 x1 x2 c4 c4f d5 HR6 HE5 HB6 HBW
      generalize w6.setCell ⟨wr.heap.size, 4, none⟩ (.slice A1 n1 c1) = w7 at *
      have hz7 := HB7.out.size
      have c0 := blk_cell k7.out 0
      have c1' := blk_cell k7.out 1
      have c2 := blk_cell k7.out 2
      have c3 := blk_cell k7.out 3
      have c4 := blk_cell k7.out 4
      have c5 := blk_cell k7.out 5
      have c6 := blk_cell k7.out 6
      have HBB := hid (below_weaken HB.out hzb HB7.out)
      go_wp2_with (at_builtin; refine Kd.R_append kCl w.heap.size rfl (.tmp 37) (.tmp 39) 22 57 _ 136 rfl Tryd.underlying22 infoCls rfl (by decide) (by decide) _ ((l.take k).map headOf) (headOf x) [.slice none 0 0, .string e.n, .string e.s, .bool e.b, .slice A1 n1 c1, .slice none 0 0, .slice none 0 0] (fun _ => True) (fun j => wr.heap.size ≤ j) rfl rfl HM7.out (fun j hj => ⟨trivial, fun e => by have := HLT.out j e.symm; omega⟩) (fun _ _ => trivial) HR7.out HBB.out HBB.out.size (by rw [List.length_map]; have := List.length_take_le k l; omega) ?_; intro v1 w1 hR1 hB1 hG1 hat1; have HR1 := hid hR1; have HB1 := hid hB1; clear hR1 hB1)
      go_roundw
      case rel => exact ⟨k + 1, by omega, by go_num, by rw [HLK.out]; exact HR1, HB1⟩
      case measure => simp [intOf]; omega
  · have HF := hid (show kCl.R 57 wr w.heap.size (fun _ => True) u3 (l.map headOf) by
      have := HR.out
      rw [List.take_of_length_le (by rw [HN.out]; omega)] at this
      exact this)
    go_wp2
    go_ret
    exact ⟨_, rfl, HF.out, HB.out⟩
end Go.Proofs.YtbogcknkkbnfnaaDoor

/- Bring, EqInts, the chapter's classes. -/
namespace Go.Proofs.YtbogcknkkbnfnaaDoor
open Go.RowKit Go.Proofs.YtbogcknkkbnfnaaDoorW.PrintWords Go.Maps Go.WideMaps

theorem C_reps {α : Type} {d : Kd α} {w : World} {g : Nat} {cs : List Value} {t : TypeId} {xs : List α} (hg : w.heap[g]? = some (.cells cs.toArray t (0, 0))) (h : Reps (d.K w) d.sz xs cs) (hn : xs.length ≤ 9223372036854775807) : d.C w (some ⟨g, 0, none⟩) xs.length xs := by
  refine ⟨rfl, hn, fun _ => ⟨_, rfl, fun j p hp => ⟨(cs.drop (j * d.sz)).take d.sz, ?_, h.2 j p hp, fun i u hu => ?_⟩⟩⟩
  · have hj := (List.getElem?_eq_some_iff.1 hp).1
    have : j * d.sz + d.sz ≤ xs.length * d.sz := by rw [← Nat.succ_mul]; exact Nat.mul_le_mul_right _ hj
    rw [List.length_take, List.length_drop, h.1]
    omega
  · rw [add_plain, blk_cell hg]
    rw [List.getElem?_take] at hu
    split at hu
    · rw [List.getElem?_drop] at hu
      simpa using hu
    · cases hu
theorem kCl_mk (w : World) (x : Cl) (A : Option Addr) (c : Nat) (hl : x.faces.length ≤ c) (hC : Kd.C Kd.string w A x.faces.length x.faces) : kCl.K w x [.slice x.pool.a x.pool.n x.pool.c, .string x.name, .string x.super, .bool x.face, .slice A x.faces.length c, .slice x.fields.a x.fields.n x.fields.c, .slice x.methods.a x.methods.n x.methods.c] :=
  ⟨[_], _, rfl, rfl, [_], _, rfl, rfl, [_], _, rfl, rfl, [_], _, rfl, rfl, [_], _, rfl, ⟨A, c, rfl, hl, hC⟩, [_], [_], rfl, rfl, rfl⟩
/-- A class of a literal: no interfaces. -/
theorem kCl_lit0 (w : World) (n s : ByteArray) (f : Bool) : kCl.K w ⟨zSl, n, s, f, [], zSl, zSl⟩ [.slice none 0 0, .string n, .string s, .bool f, .slice none 0 0, .slice none 0 0, .slice none 0 0] :=
  kCl_mk w ⟨zSl, n, s, f, [], zSl, zSl⟩ none 0 (Nat.le_refl _) ⟨rfl, Nat.zero_le _, fun h => absurd h (Nat.lt_irrefl 0)⟩
theorem C_strs {w : World} {g : Nat} {xs : List ByteArray} (hg : w.heap[g]? = some (.cells (xs.map Value.string).toArray 9 (0, 0))) (hn : xs.length ≤ 9223372036854775807) : Kd.C Kd.string w (some ⟨g, 0, none⟩) xs.length xs :=
  C_reps hg (Kd.reps_scalar xs) hn
theorem kCl_litN (w : World) (n s : ByteArray) (f : Bool) (g : Nat) (F : List ByteArray) (hg : w.heap[g]? = some (.cells (F.map Value.string).toArray 9 (0, 0))) (hn : F.length ≤ 9223372036854775807) : kCl.K w ⟨zSl, n, s, f, F, zSl, zSl⟩ [.slice none 0 0, .string n, .string s, .bool f, .slice (some ⟨g, 0, none⟩) F.length F.length, .slice none 0 0, .slice none 0 0] :=
  kCl_mk w ⟨zSl, n, s, f, F, zSl, zSl⟩ (some ⟨g, 0, none⟩) F.length (Nat.le_refl _) (C_strs hg hn)

/-- The chapter's classes. -/
def sJ : ByteArray := ⟨#[74]⟩
def sB : ByteArray := ⟨#[66]⟩
def sA : ByteArray := ⟨#[65]⟩
def sI : ByteArray := ⟨#[73]⟩
def chapL : List Cl := [⟨zSl, sJ, bn 0, true, [sI], zSl, zSl⟩, ⟨zSl, sB, sA, false, [sI], zSl, zSl⟩, ⟨zSl, sA, bn 0, false, [], zSl, zSl⟩, ⟨zSl, sI, bn 0, true, [], zSl, zSl⟩]
abbrev chapCs (b : Nat) : List Value := [.slice none 0 0, .string ⟨#[74]⟩, .string ⟨#[79, 98, 106, 101, 99, 116]⟩, .bool true, .slice (some ⟨b, 0, none⟩) 1 1, .slice none 0 0, .slice none 0 0, .slice none 0 0, .string ⟨#[66]⟩, .string ⟨#[65]⟩, .bool false, .slice (some ⟨b + 1, 0, none⟩) 1 1, .slice none 0 0, .slice none 0 0, .slice none 0 0, .string ⟨#[65]⟩, .string ⟨#[79, 98, 106, 101, 99, 116]⟩, .bool false, .slice none 0 0, .slice none 0 0, .slice none 0 0, .slice none 0 0, .string ⟨#[73]⟩, .string ⟨#[79, 98, 106, 101, 99, 116]⟩, .bool true, .slice none 0 0, .slice none 0 0, .slice none 0 0]
set_option maxRecDepth 100000 in
set_option maxHeartbeats 4000000 in
theorem chapter_any (w : World) : Calls Tryd.prog 43 #[] w fun e w' => ∃ g, e = .returned (.slice (some ⟨g, 0, none⟩) 4 4) ∧ kCl.C w' (some ⟨g, 0, none⟩) 4 chapL ∧ Below w.heap.size w w' := by
  go_enter Tryd.func43, Tryd.ntmps43
  go_wp2
  go_ret
  have k1 := blk_alloc (blk_alloc (blk_new w (.cells #[.string ⟨#[73]⟩] 9)) (.cells #[.string ⟨#[73]⟩] 9)) (.cells (chapCs w.heap.size).toArray 57)
  have k2 := blk_alloc (blk_new (w.alloc (.cells #[.string ⟨#[73]⟩] 9)) (.cells #[.string ⟨#[73]⟩] 9)) (.cells (chapCs w.heap.size).toArray 57)
  have k3 := blk_new ((w.alloc (.cells #[.string ⟨#[73]⟩] 9)).alloc (.cells #[.string ⟨#[73]⟩] 9)) (.cells (chapCs w.heap.size).toArray 57)
  simp only [World.size_alloc] at k2 k3
  refine ⟨_, rfl, C_reps (xs := chapL) (cs := (chapCs w.heap.size)) k3 ⟨rfl, fun j p hp => ?_⟩ (by decide), below_alloc (below_alloc (below_alloc (Below.refl _ _) _) _) _⟩
  match j, hp with
  | 0, hp => cases hp; exact kCl_litN _ sJ (bn 0) true _ [sI] k1 (by decide)
  | 1, hp => cases hp; exact kCl_litN _ sB sA false _ [sI] k2 (by decide)
  | 2, hp => cases hp; exact kCl_lit0 _ sA (bn 0) false
  | 3, hp => cases hp; exact kCl_lit0 _ sI (bn 0) true
  | j + 4, hp => cases hp
/-- A number brought to one below n. -/
def br (i : Int) (n : Nat) : Nat := (if i.tmod n < 0 then i.tmod n + n else i.tmod n).toNat
theorem br_lt (i : Int) {n : Nat} (h0 : 0 < n) : br i n < n := by
  have hr1 : -(n : Int) < i.tmod n := by
    have := Int.lt_tmod_of_pos i (show (0 : Int) < n by omega)
    omega
  have hr2 : i.tmod n < n := Int.tmod_lt_of_pos i (by omega)
  unfold br
  split <;> omega
set_option maxRecDepth 100000 in
set_option maxHeartbeats 4000000 in
theorem bring_any (i : Int) (n : Nat) (h0 : 0 < n) (hn : n ≤ 1000) (w : World) : Calls Tryd.prog 30 #[.int .i64 i, .int .i64 n] w fun e w' => e = .returned (.int .i64 (br i n)) ∧ w' = w := by
  have hr1 : -(n : Int) < i.tmod n := by
    have := Int.lt_tmod_of_pos i (show (0 : Int) < n by omega)
    omega
  have hr2 : i.tmod n < n := Int.tmod_lt_of_pos i (by omega)
  have HBR := hid (show br i n = (if i.tmod n < 0 then i.tmod n + n else i.tmod n).toNat from rfl)
  generalize br i n = r at *
  by_cases hr : i.tmod n < 0
  · have hrr : i.tmod n + n = r := by rw [HBR.out, if_pos hr]; omega
    have hrn : r < n := by omega
    have hq : i.tmod n = (r : Int) - n := by omega
    clear HBR
    go_enter Tryd.func30, Tryd.ntmps30
    go_wp2
    go_ret
    exact ⟨rfl, rfl⟩
  · have hrr : i.tmod n = r := by rw [HBR.out, if_neg hr]; omega
    have hrn : r < n := by omega
    clear HBR
    go_enter Tryd.func30, Tryd.ntmps30
    go_wp2
    go_ret
    exact ⟨rfl, rfl⟩
set_option maxRecDepth 100000 in
set_option maxHeartbeats 4000000 in
theorem eqInts_any (A1 A2 : Option Addr) (c1 c2 : Nat) (xs ys : List Int) (w : World) (h1 : kI.C w A1 xs.length xs) (h2 : kI.C w A2 ys.length ys) (hx : xs.length ≤ 1000000) (hy : ys.length ≤ 1000000) : Calls Tryd.prog 93 #[.slice A1 xs.length c1, .slice A2 ys.length c2] w fun e w' => e = .returned (.bool (xs == ys)) ∧ Below w.heap.size w w' := by
  have H1 := hid h1
  have H2 := hid h2
  obtain ⟨n, hn⟩ : ∃ n, xs.length = n := ⟨_, rfl⟩
  obtain ⟨m, hm⟩ : ∃ m, ys.length = m := ⟨_, rfl⟩
  have HN := hid hn
  have HM := hid hm
  rw [hn] at hx ⊢
  rw [hm] at hy ⊢
  clear h1 h2 hn hm
  by_cases hnm : n = m
  · subst hnm
    go_enter Tryd.func93, Tryd.ntmps93
    go_wp2
    go_loopw [5] (fun iV wr => ∃ k : Nat, k ≤ n ∧ iV = .int .i64 k ∧ Hid (Below w.heap.size w wr) ∧ Hid (∀ j, j < k → xs[j]? = ys[j]?)) (fun iV _ => n - (intOf iV).toNat)
    case atStart => exact ⟨0, by omega, rfl, Below.refl _ _, fun j hj => by omega⟩
    obtain ⟨k, hk, rfl, HB, HD⟩ := hrel
    by_cases hlt : k < n
    · have g1 := Kd.C_below H1.out HB.out
      have g2 := Kd.C_below H2.out HB.out
      obtain ⟨b1, o1, hA1⟩ := C_plain g1 (by rw [HN.out]; omega) (by decide)
      obtain ⟨b2, o2, hA2⟩ := C_plain g2 (by rw [HM.out]; omega) (by decide)
      subst hA1 hA2
      have d1 := C_scalar (h1 := fun _ => rfl) g1 0 k (by rw [HN.out]; exact hlt)
      have d2 := C_scalar (h1 := fun _ => rfl) g2 0 k (by rw [HM.out]; exact hlt)
      have x1 : xs[k]? = some (xs[k]'(by rw [HN.out]; exact hlt)) := List.getElem?_eq_getElem _
      have x2 : ys[k]? = some (ys[k]'(by rw [HM.out]; exact hlt)) := List.getElem?_eq_getElem _
      obtain ⟨u, hu⟩ : ∃ u, xs[k]? = some u := ⟨_, x1⟩
      obtain ⟨v, hv⟩ : ∃ v, ys[k]? = some v := ⟨_, x2⟩
      rw [List.getD_eq_getElem?_getD, hu, Option.getD_some] at d1
      rw [List.getD_eq_getElem?_getD, hv, Option.getD_some] at d2
      have HU := hid hu
      have HV := hid hv
      clear g1 g2 x1 x2 hu hv
      by_cases huv : u = v
      · have HE := hid huv
        have b0 : (u != v) = false := by simp [huv]
        clear huv
        go_wp2_with fail
        go_quiet (fail)
        go_wp2_with fail
        go_roundw
        case rel => exact ⟨k + 1, by omega, by go_num, pw_below_drewN HB.out _, fun j hj => by
          by_cases e : j = k
          · rw [e, HU.out, HV.out, HE.out]
          · exact HD.out j (by omega)⟩
        case measure => simp [intOf]; omega
      · have b0 : (u != v) = true := by simp [huv]
        have HE := hid (show (xs == ys) = false by
          rw [beq_eq_false_iff_ne]
          intro e
          rw [e, HV.out] at HU
          exact huv (Option.some.inj HU.out).symm)
        clear huv
        go_wp2_with fail
        go_quiet (fail)
        go_wp2_with fail
        go_ret
        exact ⟨by rw [HE.out]; rfl, pw_below_drewN HB.out _⟩
    · have HE := hid (show (xs == ys) = true by
        rw [beq_iff_eq]
        apply List.ext_getElem?
        intro j
        by_cases hj : j < n
        · exact HD.out j (by omega)
        · rw [List.getElem?_eq_none (by rw [HN.out]; omega), List.getElem?_eq_none (by rw [HM.out]; omega)])
      go_wp2
      go_ret
      exact ⟨by rw [HE.out]; rfl, HB.out⟩
  · have b1 : ((n : Int) != (m : Int)) = true := by simp; omega
    have HE := hid (show (xs == ys) = false by
      rw [beq_eq_false_iff_ne]
      intro e
      apply hnm
      rw [← HN.out, ← HM.out, e])
    clear hnm
    go_enter Tryd.func93, Tryd.ntmps93
    go_wp2
    go_ret
    exact ⟨by rw [HE.out]; rfl, Below.refl _ _⟩
end Go.Proofs.YtbogcknkkbnfnaaDoor

