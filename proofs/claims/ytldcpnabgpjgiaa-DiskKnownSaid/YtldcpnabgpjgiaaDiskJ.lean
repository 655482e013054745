/-
  The walks of the client's look, order.
-/
import Derived.Test.YtldcpnabgpjgiaaDiskI
namespace Go.Proofs.Ytldcpnabgpjgiaa.Walks
open Go.RowKit Plain
set_option linter.unusedVariables false
attribute [local go_sem] isPV_mk adV_mk cells_agg cells_agg' held_drew room_drew cellsAt_drew isA4_mk isSl_mk isI_mk intOf_mk
attribute [local go_sem ↓] exec_load88 exec_store88 exec_load81 exec_store81 exec_load90 exec_store90 Go.wp_at_zero Go.wp_at_succ exec_alloc81 exec_build81r exec_build81s exec_bs69

theorem zero160 (w : World) : (zeroValue 160).run Try.prog w = .ok (.agg #[.int .i64 0, .slice none 0 0, .int .i64 0]) w := by kernel_rfl
/-- A place's cells. -/
def PlaceR (w : World) (f : Int) (a : Option Addr) (n cap : Nat) (e : Int) : Option (List Int × Int) → Prop
  | none => f = 0 ∧ a = none ∧ n = 0 ∧ cap = 0 ∧ e = 0
  | some m => f = 1 ∧ n = m.1.length ∧ e = m.2 ∧ IL w a m.1 ∧ (a = none → cap = 0)
theorem MapM.look {w : World} {r N : Nat} {m : Int → Option (List Int × Int)} (h : MapM w r N m) {k : Int} (hk : Wf k) :
    ∃ f a n cap e, (∀ w', w'.heap[r]? = w.heap[r]? → (Instr.lookup 109 (.map (some r)) (.int .i64 k) false).run Try.prog w' = .ok (.agg #[.int .i64 f, .slice a n cap, .int .i64 e]) w') ∧
      (∀ w', w'.heap[r]? = w.heap[r]? → (Instr.lookup 109 (.map (some r)) (.int .i64 k) true).run Try.prog w' = .ok (.tuple #[.agg #[.int .i64 f, .slice a n cap, .int .i64 e], .bool (m k).isSome]) w') ∧ PlaceR w f a n cap e (m k) := by
  obtain ⟨F, h1, h2⟩ := h
  obtain ⟨kl, hkl⟩ := keyOf_i hk
  have hv := h2 k hk
  have look : ∀ (c : Bool) (w' : World), w'.heap[r]? = w.heap[r]? → (Instr.lookup 109 (.map (some r)) (.int .i64 k) c).run Try.prog w' = .ok (lookRes c (.agg #[.int .i64 0, .slice none 0 0, .int .i64 0]) (F (.int .i64 k))) w' := fun c w' hw => (h1.block hw).look c int_key Try.underlying109 (zero160 w') hkl
  cases hm : m k with
  | none =>
    rw [hm] at hv
    have hv : F (.int .i64 k) = none := hv
    rw [hv] at look
    exact ⟨0, none, 0, 0, 0, look false, look true, rfl, rfl, rfl, rfl, rfl⟩
  | some x =>
    rw [hm] at hv
    obtain ⟨l, e⟩ := x
    obtain ⟨a, c, hf, hI, hn⟩ := hv
    rw [hf] at look
    exact ⟨1, a, l.length, c, e, look false, look true, rfl, rfl, rfl, hI, hn⟩
theorem CliAt.mapM {w : World} {p r1 r2 N : Nat} {c : Cl} (h : CliAt w p r1 r2 N c) : MapM w r1 N c.maps := by
  obtain ⟨da, dc, la, lc, cf, cs, said, am, hP, hM⟩ := h; exact hM.2.2.2.1
theorem PlaceR.keeps {w w' : World} (hk : Keeps w w') {f : Int} {a : Option Addr} {n cap : Nat} {e : Int} : ∀ {m : Option (List Int × Int)}, PlaceR w f a n cap e m → PlaceR w' f a n cap e m
  | none, h => h
  | some m, h => by obtain ⟨h1, h2, h3, h4, h5⟩ := h; exact ⟨h1, h2, h3, hk.il h4, h5⟩
/-- A place in its block. -/
def PlaceB (w0 w : World) (b : Nat) (f : Int) (a : Option Addr) (n cap : Nat) (e : Int) (v : Value) : Prop := v = .pointer (some ⟨b, 0, none⟩) ∧ Blk w b [.int .i64 f, .slice a n cap, .int .i64 e] 160 ∧ Below w0.heap.size w0 w
theorem placeB_mk (w : World) (f : Int) (a : Option Addr) (n cap : Nat) (e : Int) : PlaceB w (w.alloc (.cells #[.int .i64 f, .slice a n cap, .int .i64 e] 160)).drew w.heap.size f a n cap e (.pointer (some ⟨w.heap.size, 0, none⟩)) :=
  ⟨rfl, Blk.new _ _ _, (Below.new _ _).drew⟩
theorem wishC_data (c : Cl) (e : Int) : (wishC (ownC c) e).data = c.call.data := by unfold wishC ownC; split <;> rfl
theorem ownC_call (c : Cl) : (ownC c).call = c.call := by unfold ownC; split <;> rfl
theorem ownC_same (c : Cl) : (ownC c).maps = c.maps ∧ (ownC c).way = c.way ∧ (ownC c).crew = c.crew ∧ (ownC c).name = c.name := by unfold ownC; split <;> exact ⟨rfl, rfl, rfl, rfl⟩
set_option maxRecDepth 100000 in
set_option maxHeartbeats 4000000 in
theorem look_is (p r1 r2 N g : Nat) (c : Cl) (o : Ou) (m : List Int × Int) (w : World) (h : CliAt w p r1 r2 N c) (ho : OutAt w g o) (hs : 0 ≤ c.stamp ∧ c.stamp ≤ 1000000) (hk : Wf (chunkC c)) (hm : c.maps (chunkC c) = some m) (hg : goodC 1 m.1 = true) :
    Calls Try.prog 130 #[.pointer (some ⟨p, 0, none⟩), .pointer (some ⟨g, 0, none⟩)] w (SayP p r1 N g (lookC c m) o w) := by
  obtain ⟨f, a, n, cap, e, l1, l2, hr⟩ := h.mapM.look hk
  rw [hm] at hr
  obtain ⟨rfl, rfl, rfl, hI, hn⟩ := hr
  have c4 := h.c4
  have HL := Lib.hid l1
  have hrl := h.lt.2.1
  have k1 := l1 w rfl
  have k2 := l1 w.drew rfl
  have k3 := l1 (w.alloc (.cells #[.int .i64 0, .slice none 0 0, .int .i64 0] 160)) (heap_alloc_lt hrl)
  have k4 := l1 (w.alloc (.cells #[.int .i64 0, .slice none 0 0, .int .i64 0] 160)).drew (heap_alloc_lt hrl)
  have HC := Lib.hid h
  have HO := Lib.hid ho
  have HI := Lib.hid hI
  have HN := Lib.hid hn
  have HS := Lib.hid hs
  have HG := Lib.hid hg
  have HM := Lib.hid hm
  have hpl := h.lt.1
  clear h ho hs hk hm hg hI hn l1 l2
  go_enter Try.func130, Try.ntmps130
  go_upto_region 0 with (fail)
  go_cut [4] from 5 to 11 (fun v wx => PlaceB w wx w.heap.size 1 a m.1.length cap m.2 v)
  case first =>
    have hS : Below w.heap.size w w := Below.refl _ _
    go_region_with
      ((go_at_call 116; go_loud ((with_reducible refine Calls.mono (chunk_is p r1 r2 N c _ ?_) ?_); (first | exact HC.out.below hS | exact HC.out.below hS.drew | exact HC.out.below (Below.new _ _) | exact HC.out.below (Below.new _ _).drew); rintro e1 wc ⟨rfl, rfl⟩)))
    all_goals
      go_wp2_with fail
      go_meet
      exact placeB_mk _ _ _ _ _ _
  case rest =>
    obtain ⟨rfl, hB, hb⟩ := hcut
    have hC := HC.out.below hb
    have hO := HO.out.below hb
    have HI := Lib.hid (HI.out.below hb)
    have b0 := hB.cell (i := 0) rfl
    have b1 := hB.cell (i := 1) rfl
    have b2 := hB.cell (i := 2) rfl
    have HBB := Lib.hid hB
    have HB0 := Lib.hid hb
    have hW : Only [p] wc wc := Only.refl _ _
    have HC1 := Lib.hid hC
    have HO1 := Lib.hid hO
    clear k1 k2 k3 k4 hrl c4 hB hb
    go_upto_region 1 with (fail)
    go_region_with
      ((first
        | (go_at_call 121; go_loud ((with_reducible refine Calls.mono (wish_is p r1 r2 N c m.2 _ ?_ HS.out) ?_); (first | exact HC1.out | exact HC1.out.drw); rintro e1 wd ⟨a', c', rfl, hD, hDn, hC, hW1⟩; have hW : Only [p] wc wd := (by first | exact hW1 | exact (Only.refl _ _).drw.trans hW1); have hk := hW.keepsC HC1.out; have hO : OutAt wd g o := HO1.out.same (hW.block _ HO1.out.lt (by simpa using (HC1.out.ne HO1.out).1.symm)) hk; have hI := hk.il HI.out; have hBd : Blk wd w.heap.size [.int .i64 1, .slice a m.1.length cap, .int .i64 m.2] 160 := (hW.block _ HBB.out.lt (by have := HC.out.lt.1; simp; omega)).trans HBB.out; have b0 := hBd.cell (i := 0) rfl; have b1 := hBd.cell (i := 1) rfl; have b2 := hBd.cell (i := 2) rfl; have hD' : BL wd a' (wishC (ownC c) m.2).data := (by rw [wishC_data]; exact hD)))
        | (go_at_call 120; go_loud ((with_reducible refine Calls.mono (say_is p r1 r2 N g (ownC c) o 2 14 m.1 a cap (wishC (ownC c) m.2) a' c' _ ?_ ?_ ?_ HN.out ?_ hDn (by decide) HG.out) ?_); (first | exact hC | exact hC.drw); (first | exact hO | exact hO.drw); (first | exact hI | exact hI.below (Below.refl _ _).drew); (first | exact hD' | exact hD'.below (Below.refl _ _).drew); rintro e wd ⟨rfl, r2', q1, q2, q3, q4⟩; have hQ4 : Only [p, g] w wd := (by first | exact ((Only.of_below HB0.out).trans (hW.mono (R' := [p, g]) (by simp))).trans q4 | exact ((Only.of_below HB0.out).trans (hW.drw.mono (R' := [p, g]) (by simp))).trans q4); have hQ1 : w.heap.size ≤ r2' := Nat.le_trans HB0.out.size (Nat.le_trans hW.size q1)))))
    all_goals
      go_wp2_with fail
      go_end0
      exact ⟨rfl, r2', hQ1, q2, q3, hQ4⟩
set_option maxRecDepth 100000 in
set_option maxHeartbeats 4000000 in
theorem order_map (p r1 r2 N g : Nat) (c : Cl) (o : Ou) (m : List Int × Int) (w : World) (h : CliAt w p r1 r2 N c) (ho : OutAt w g o) (hs : 0 ≤ c.stamp ∧ c.stamp ≤ 1000000) (hk : Wf (chunkC c)) (h4 : c.call.kind ≠ 4) (hm : c.maps (chunkC c) = some m) (hg : goodC 1 m.1 = true) :
    Calls Try.prog 101 #[.pointer (some ⟨p, 0, none⟩), .pointer (some ⟨g, 0, none⟩)] w (SayP p r1 N g (orderC c m) o w) := by
  obtain ⟨f, a, n, cap, e, l1, l2, hr⟩ := h.mapM.look hk
  rw [hm] at hr
  obtain ⟨rfl, rfl, rfl, hI, hn⟩ := hr
  have hq : (c.call.kind == 4) = false := by simpa using h4
  have c4 := h.c4
  have c12 := h.c12
  have HL := Lib.hid l1
  have hrl := h.lt.2.1
  have k1 := l1 w rfl
  have k2 := l1 w.drew rfl
  have k3 := l1 (w.alloc (.cells #[.int .i64 0, .slice none 0 0, .int .i64 0] 160)) (heap_alloc_lt hrl)
  have k4 := l1 (w.alloc (.cells #[.int .i64 0, .slice none 0 0, .int .i64 0] 160)).drew (heap_alloc_lt hrl)
  have HC := Lib.hid h
  have HO := Lib.hid ho
  have HS := Lib.hid hs
  have HI := Lib.hid hI
  have HN := Lib.hid hn
  have HG := Lib.hid hg
  clear hm hg hI hn h4
  have hpl := h.lt.1
  clear h ho hs hk l1 l2
  go_enter Try.func101, Try.ntmps101
  go_upto_region 0 with (fail)
  go_cut [4] from 5 to 11 (fun v wx => PlaceB w wx w.heap.size 1 a m.1.length cap m.2 v)
  case first =>
    have hS : Below w.heap.size w w := Below.refl _ _
    go_region_with
      ((go_at_call 116; go_loud ((with_reducible refine Calls.mono (chunk_is p r1 r2 N c _ ?_) ?_); (first | exact HC.out.below hS | exact HC.out.below hS.drew | exact HC.out.below (Below.new _ _) | exact HC.out.below (Below.new _ _).drew); rintro e1 wc ⟨rfl, rfl⟩)))
    all_goals
      go_wp2_with fail
      go_meet
      exact placeB_mk _ _ _ _ _ _
  case rest =>
    obtain ⟨rfl, hB, hb⟩ := hcut
    have hC := HC.out.below hb
    have hO := HO.out.below hb
    have c12 := hC.c12
    have HI := Lib.hid (HI.out.below hb)
    have b0 := hB.cell (i := 0) rfl
    have b1 := hB.cell (i := 1) rfl
    have b2 := hB.cell (i := 2) rfl
    have HBB := Lib.hid hB
    have HB0 := Lib.hid hb
    have HC1 := Lib.hid hC
    have HO1 := Lib.hid hO
    clear k1 k2 k3 k4 hrl c4 hB hb hC hO
    have hW : Only [p] wc wc := Only.refl _ _
    go_upto_region 3 with (fail)
    go_region_with
      ((first
        | (go_at_call 121; go_loud ((with_reducible refine Calls.mono (wish_is p r1 r2 N c m.2 _ ?_ HS.out) ?_); (first | exact HC1.out | exact HC1.out.drw); rintro e1 wd ⟨a', c', rfl, hD, hDn, hC, hW1⟩; have hW : Only [p] wc wd := (by first | exact hW1 | exact (Only.refl _ _).drw.trans hW1); have hk := hW.keepsC HC1.out; have hO : OutAt wd g o := HO1.out.same (hW.block _ HO1.out.lt (by simpa using (HC1.out.ne HO1.out).1.symm)) hk; have hI := hk.il HI.out; have hBd : Blk wd w.heap.size [.int .i64 1, .slice a m.1.length cap, .int .i64 m.2] 160 := (hW.block _ HBB.out.lt (by have := HC.out.lt.1; simp; omega)).trans HBB.out; have b0 := hBd.cell (i := 0) rfl; have b1 := hBd.cell (i := 1) rfl; have b2 := hBd.cell (i := 2) rfl; have hD' : BL wd a' (wishC (ownC c) m.2).data := (by rw [wishC_data]; exact hD)))
        | (go_at_call 120; go_loud ((with_reducible refine Calls.mono (say_is p r1 r2 N g (ownC c) o 3 1 m.1 a cap (wishC (ownC c) m.2) a' c' _ ?_ ?_ ?_ HN.out ?_ hDn (by decide) HG.out) ?_); (first | exact hC | exact hC.drw); (first | exact hO | exact hO.drw); (first | exact hI | exact hI.below (Below.refl _ _).drew); (first | exact hD' | exact hD'.below (Below.refl _ _).drew); rintro e wd ⟨rfl, r2', q1, q2, q3, q4⟩; have hQ4 : Only [p, g] w wd := (by first | exact ((Only.of_below HB0.out).trans (hW.mono (R' := [p, g]) (by simp))).trans q4 | exact ((Only.of_below HB0.out).trans (hW.drw.mono (R' := [p, g]) (by simp))).trans q4); have hQ1 : w.heap.size ≤ r2' := Nat.le_trans HB0.out.size (Nat.le_trans hW.size q1)))))
    all_goals
      go_wp2_with fail
      go_end0
      exact ⟨rfl, r2', hQ1, q2, q3, hQ4⟩
set_option maxRecDepth 100000 in
set_option maxHeartbeats 4000000 in
theorem order_dir (p r1 r2 N g : Nat) (c : Cl) (o : Ou)  (w : World) (h : CliAt w p r1 r2 N c) (ho : OutAt w g o) (hs : 0 ≤ c.stamp ∧ c.stamp ≤ 1000000) (hk : Wf (chunkC c)) (h4 : c.call.kind = 4) :
    Calls Try.prog 101 #[.pointer (some ⟨p, 0, none⟩), .pointer (some ⟨g, 0, none⟩)] w (SayP p r1 N g (orderC c (dirL, 0)) o w) := by
  obtain ⟨f, a, n, cap, e, l1, l2, hr⟩ := h.mapM.look hk
  have hq : (c.call.kind == 4) = true := by simpa using h4
  have c4 := h.c4
  have c12 := h.c12
  have HL := Lib.hid l1
  have hrl := h.lt.2.1
  have k1 := l1 w rfl
  have k2 := l1 w.drew rfl
  have k3 := l1 (w.alloc (.cells #[.int .i64 0, .slice none 0 0, .int .i64 0] 160)) (heap_alloc_lt hrl)
  have k4 := l1 (w.alloc (.cells #[.int .i64 0, .slice none 0 0, .int .i64 0] 160)).drew (heap_alloc_lt hrl)
  have HC := Lib.hid h
  have HO := Lib.hid ho
  have HS := Lib.hid hs
  have HG : Hid (goodC 1 dirL = true) := Lib.hid (by decide)
  clear h4 hr
  have hpl := h.lt.1
  clear h ho hs hk l1 l2
  go_enter Try.func101, Try.ntmps101
  go_upto_region 0 with (fail)
  go_cut [4] from 5 to 11 (fun v wx => PlaceB w wx w.heap.size f a n cap e v)
  case first =>
    have hS : Below w.heap.size w w := Below.refl _ _
    go_region_with
      ((go_at_call 116; go_loud ((with_reducible refine Calls.mono (chunk_is p r1 r2 N c _ ?_) ?_); (first | exact HC.out.below hS | exact HC.out.below hS.drew | exact HC.out.below (Below.new _ _) | exact HC.out.below (Below.new _ _).drew); rintro e1 wc ⟨rfl, rfl⟩)))
    all_goals
      go_wp2_with fail
      go_meet
      exact placeB_mk _ _ _ _ _ _
  case rest =>
    obtain ⟨rfl, hB, hb⟩ := hcut
    have hC := HC.out.below hb
    have hO := HO.out.below hb
    have c12 := hC.c12
    obtain ⟨c1, da, dc, c2, hI, hIn⟩ := hC.dir
    have HI := Lib.hid hI
    have HN := Lib.hid hIn
    have b0 := hB.cell (i := 0) rfl
    have b1 := hB.cell (i := 1) rfl
    have b2 := hB.cell (i := 2) rfl
    have z0 := hB.free 0
    have z1 := hB.free 1
    have z2 := hB.free 2
    have HBB := Lib.hid hB
    have HB0 := Lib.hid hb
    have HC1 := Lib.hid hC
    have HO1 := Lib.hid hO
    clear k1 k2 k3 k4 hrl c4 hB hb hC hO hI hIn
    go_upto_region 3 with (fail)
    obtain ⟨w3, hw3⟩ : ∃ x, x = ((wc.setCell ⟨w.heap.size, 0, none⟩ (.int .i64 1)).setCell ⟨w.heap.size, 1, none⟩ (.slice da dirL.length dc)).setCell ⟨w.heap.size, 2, none⟩ (.int .i64 0) := ⟨_, rfl⟩
    have hB3 : Blk w3 w.heap.size [.int .i64 1, .slice da dirL.length dc, .int .i64 0] 160 := by
      rw [hw3]; exact ((HBB.out.set 0 _).set 1 _).set 2 _
    have hb3 : Below w.heap.size w w3 := by
      rw [hw3]; exact ((HB0.out.setCell (by simp) _).setCell (by simp) _).setCell (by simp) _
    have hI3 : IL w3 da dirL := by
      rw [hw3]; exact ((HI.out.set HBB.out (by decide) _ _).set (HBB.out.set 0 (.int .i64 1)) (by decide) _ _).set ((HBB.out.set 0 (.int .i64 1)).set 1 (.slice da dirL.length dc)) (by decide) _ _
    rw [← hw3]
    clear hw3 b0 b1 b2 z0 z1 z2 c1 c2 c12
    have b0 := hB3.cell (i := 0) rfl
    have b1 := hB3.cell (i := 1) rfl
    have b2 := hB3.cell (i := 2) rfl
    have HBB := Lib.hid hB3
    have HB0 := Lib.hid hb3
    have HI := Lib.hid hI3
    have HC1 := Lib.hid (HC.out.below hb3)
    have HO1 := Lib.hid (HO.out.below hb3)
    clear hB3 hb3 hI3 hq
    have hW : Only [p] w3 w3 := Only.refl _ _
    go_region_with
      ((first
        | (go_at_call 121; go_loud ((with_reducible refine Calls.mono (wish_is p r1 r2 N c 0 _ ?_ HS.out) ?_); (first | exact HC1.out | exact HC1.out.drw); rintro e1 wd ⟨a', c', rfl, hD, hDn, hC, hW1⟩; have hW : Only [p] w3 wd := (by first | exact hW1 | exact (Only.refl _ _).drw.trans hW1); have hk := hW.keepsC HC1.out; have hO : OutAt wd g o := HO1.out.same (hW.block _ HO1.out.lt (by simpa using (HC1.out.ne HO1.out).1.symm)) hk; have hI := hk.il HI.out; have hBd : Blk wd w.heap.size [.int .i64 1, .slice da dirL.length dc, .int .i64 0] 160 := (hW.block _ HBB.out.lt (by have := HC.out.lt.1; simp; omega)).trans HBB.out; have b0 := hBd.cell (i := 0) rfl; have b1 := hBd.cell (i := 1) rfl; have b2 := hBd.cell (i := 2) rfl; have hD' : BL wd a' (wishC (ownC c) 0).data := (by rw [wishC_data]; exact hD)))
        | (go_at_call 120; go_loud ((with_reducible refine Calls.mono (say_is p r1 r2 N g (ownC c) o 3 1 dirL da dc (wishC (ownC c) 0) a' c' _ ?_ ?_ ?_ HN.out ?_ hDn (by decide) HG.out) ?_); (first | exact hC | exact hC.drw); (first | exact hO | exact hO.drw); (first | exact hI | exact hI.below (Below.refl _ _).drew); (first | exact hD' | exact hD'.below (Below.refl _ _).drew); rintro e wd ⟨rfl, r2', q1, q2, q3, q4⟩; have hQ4 : Only [p, g] w wd := (by first | exact ((Only.of_below HB0.out).trans (hW.mono (R' := [p, g]) (by simp))).trans q4 | exact ((Only.of_below HB0.out).trans (hW.drw.mono (R' := [p, g]) (by simp))).trans q4); have hQ1 : w.heap.size ≤ r2' := Nat.le_trans HB0.out.size (Nat.le_trans hW.size q1)))))
    all_goals
      go_wp2_with fail
      go_end0
      exact ⟨rfl, r2', hQ1, q2, q3, hQ4⟩
theorem order_is (p r1 r2 N g : Nat) (c : Cl) (o : Ou) (w : World) (h : CliAt w p r1 r2 N c) (ho : OutAt w g o) (hs : 0 ≤ c.stamp ∧ c.stamp ≤ 1000000) (hk : Wf (chunkC c)) (hm : c.call.kind ≠ 4 → (c.maps (chunkC c)).isSome = true) (hg : ∀ m, c.maps (chunkC c) = some m → goodC 1 m.1 = true) :
    Calls Try.prog 101 #[.pointer (some ⟨p, 0, none⟩), .pointer (some ⟨g, 0, none⟩)] w (SayP p r1 N g (orderC c (placeC c)) o w) := by
  by_cases h4 : c.call.kind = 4
  · have e : placeC c = (dirL, 0) := by simp [placeC, h4]
    rw [e]; exact order_dir p r1 r2 N g c o w h ho hs hk h4
  · obtain ⟨m, hmm⟩ := Option.isSome_iff_exists.1 (hm h4)
    have e : placeC c = m := by simp [placeC, h4, hmm]
    rw [e]; exact order_map p r1 r2 N g c o m w h ho hs hk h4 hmm (hg m hmm)
end Go.Proofs.Ytldcpnabgpjgiaa.Walks
