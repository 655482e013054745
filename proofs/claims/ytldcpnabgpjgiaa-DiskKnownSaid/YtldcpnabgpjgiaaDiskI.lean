/-
  The walks of the client's ask, look, order, on.
-/
import Derived.Test.YtldcpnabgpjgiaaDiskH
namespace Go.Proofs.Ytldcpnabgpjgiaa.Walks
open Go.RowKit Plain
set_option linter.unusedVariables false
attribute [local go_sem] isPV_mk adV_mk cells_agg cells_agg' held_drew room_drew cellsAt_drew isA4_mk isSl_mk isI_mk intOf_mk
attribute [local go_sem ↓] exec_load88 exec_store88 exec_load81 exec_store81 exec_load90 exec_store90 Go.wp_at_zero Go.wp_at_succ exec_alloc81 exec_build81r exec_build81s exec_bs69

theorem CliAt.drw {w : World} {p r1 r2 N : Nat} {c : Cl} (h : CliAt w p r1 r2 N c) : CliAt w.drew p r1 r2 N c := h.below (Below.refl _ _).drew
theorem OutAt.drw {w : World} {g : Nat} {o : Ou} (h : OutAt w g o) : OutAt w.drew g o := h.below (Below.refl _ _).drew
theorem CliAt.dir {w : World} {p r1 r2 N : Nat} {c : Cl} (h : CliAt w p r1 r2 N c) : w.cell? ⟨p, 1, none⟩ = some (.int .i64 1) ∧ ∃ da dc, w.cell? ⟨p, 2, none⟩ = some (.slice da dirL.length dc) ∧ IL w da dirL ∧ (da = none → dc = 0) := by
  obtain ⟨da, dc, la, lc, cf, cs, said, am, hP, hM⟩ := h
  exact ⟨hP.cell (i := 1) rfl, da, dc, hP.cell (i := 2) rfl, hM.2.1⟩
theorem CliAt.keepsSet {w : World} {p r1 r2 N : Nat} {c : Cl} (h : CliAt w p r1 r2 N c) (i : Nat) (v : Value) : Keeps w (w.setCell ⟨p, i, none⟩ v) := by
  obtain ⟨da, dc, la, lc, cf, cs, said, am, hP, hM⟩ := h
  exact Keeps.set hP (by decide) i v
theorem CliAt.setO {w : World} {p r1 r2 N g : Nat} {c : Cl} {o : Ou} (h : CliAt w p r1 r2 N c) (ho : OutAt w g o) (i : Nat) (v : Value) : OutAt (w.setCell ⟨p, i, none⟩ v) g o :=
  ho.same (heap_setCell_ne (h.ne ho).1.symm) (h.keepsSet i v)
theorem Only.keepsC {w w' : World} {p r1 r2 N : Nat} {c : Cl} (ho : Only [p] w w') (h : CliAt w p r1 r2 N c) : Keeps w w' := by
  obtain ⟨da, dc, la, lc, cf, cs, said, am, hP, hM⟩ := h
  exact ho.keeps hP (by decide)
theorem say_ask (p r1 r2 N g : Nat) (c : Cl) (o : Ou) (ta : Option Addr) (tc : Nat) (nm st ch : Int) (w : World) (h : CliAt w p r1 r2 N c) (ho : OutAt w g o) (hT : IL w ta dirL) (hTn : ta = none → tc = 0) :
    Calls Try.prog 120 #[.pointer (some ⟨p, 0, none⟩), .pointer (some ⟨g, 0, none⟩), .int .i64 1, .int .i64 1, .agg #[.int .i64 1, .slice ta dirL.length tc],
      .agg #[.int .i64 nm, .int .i64 st, .int .i64 0, .int .i64 0, .int .i64 3, .int .i64 ch, .slice none 0 0, .int .i64 0, .int .i64 0, .slice none 0 0]] w (SayP p r1 N g (sayC c 1 1 dirL ⟨nm, st, 0, 0, 3, ch, [], 0, 0⟩) o w) :=
  say_is p r1 r2 N g c o 1 1 dirL ta tc ⟨nm, st, 0, 0, 3, ch, [], 0, 0⟩ none 0 w h ho hT hTn (BL.nil _ _) (fun _ => rfl) (by decide) (by decide)
set_option maxRecDepth 100000 in
set_option maxHeartbeats 4000000 in
theorem ask_is (p r1 r2 N g : Nat) (c : Cl) (o : Ou) (w : World) (h : CliAt w p r1 r2 N c) (ho : OutAt w g o) (hs : 0 ≤ c.stamp ∧ c.stamp ≤ 1000000) :
    Calls Try.prog 129 #[.pointer (some ⟨p, 0, none⟩), .pointer (some ⟨g, 0, none⟩)] w (SayP p r1 N g (askC c) o w) := by
  have c0 := h.c0
  obtain ⟨c5, f5⟩ := h.c5
  obtain ⟨c1, da, dc, c2, hI, hIn⟩ := h.dir
  have HPG := Lib.hid (h.ne ho).1
  have HC0 := Lib.hid h
  have HO0 := Lib.hid ho
  have HI0 := Lib.hid hI
  have HIN := Lib.hid hIn
  have HS := Lib.hid hs
  obtain ⟨hs0, hs1⟩ := hs
  clear h ho hI hIn
  go_enter Try.func129, Try.ntmps129
  have hW : Only [p] w w := Only.refl _ _
  go_region_with
    ((first
      | (go_at_call 131; go_loud ((with_reducible refine Calls.mono (next_is p c.stamp _ ?_ ?_ HS.out) ?_); (first | exact c5 | simpa using c5); (first | exact f5 | simpa using f5); rintro e wc ⟨rfl, hw⟩; have hC : CliAt wc p r1 r2 N (nextC c) := (by rw [← hw]; first | exact HC0.out.setStamp (c.stamp + 1) | exact HC0.out.drw.setStamp (c.stamp + 1)); have hO : OutAt wc g o := (by rw [← hw]; first | exact HC0.out.setO HO0.out 5 (.int .i64 (c.stamp + 1)) | exact HC0.out.drw.setO HO0.out.drw 5 (.int .i64 (c.stamp + 1))); have hW : Only [p] w wc := (by rw [← hw]; first | exact hW.setCell (.inl (inP p)) 5 (.int .i64 (c.stamp + 1)) | exact hW.drw.setCell (.inl (inP p)) 5 (.int .i64 (c.stamp + 1))); have hI := (hW.keepsC HC0.out).il HI0.out; have c0 : wc.cell? ⟨p, 0, none⟩ = some (.int .i64 c.name) := hC.c0; have c1 : wc.cell? ⟨p, 1, none⟩ = some (.int .i64 1) := (by rw [← hw, World.cell?_setCell_other _ _ _ _ (by simp)]; exact c1); have c2 : wc.cell? ⟨p, 2, none⟩ = some (.slice da dirL.length dc) := (by rw [← hw, World.cell?_setCell_other _ _ _ _ (by simp)]; exact c2); clear hw))
      | (go_at_call 116; go_loud ((with_reducible refine Calls.mono (chunk_is p r1 r2 N (nextC c) _ ?_) ?_); (first | exact hC | exact hC.drw); rintro e wc ⟨rfl, hw⟩; have hC : CliAt wc p r1 r2 N (nextC c) := (by rw [← hw]; first | exact hC | exact hC.drw); have hO : OutAt wc g o := (by rw [← hw]; first | exact hO | exact hO.drw); have hW : Only [p] w wc := (by rw [← hw]; first | exact hW | exact hW.drw); have hI := (hW.keepsC HC0.out).il HI0.out; have c0 : wc.cell? ⟨p, 0, none⟩ = some (.int .i64 c.name) := hC.c0; have c1 : wc.cell? ⟨p, 1, none⟩ = some (.int .i64 1) := (by rw [← hw]; exact c1); have c2 : wc.cell? ⟨p, 2, none⟩ = some (.slice da dirL.length dc) := (by rw [← hw]; exact c2); clear hw))
      | (go_at_call 120; go_loud ((with_reducible refine Calls.mono (say_ask p r1 r2 N g (nextC c) o da dc c.name (c.stamp + 1) (chunkC (nextC c)) _ ?_ ?_ ?_ HIN.out) ?_); (first | exact hC | exact hC.drw); (first | exact hO | exact hO.drw); (first | exact hI | exact hI.below (Below.refl _ _).drew); rintro e wd ⟨rfl, r2', q1, q2, q3, q4⟩; have hQ4 : Only [p, g] w wd := (by first | exact (hW.mono (R' := [p, g]) (by simp)).trans q4 | exact (hW.drw.mono (R' := [p, g]) (by simp)).trans q4); have hQ1 : w.heap.size ≤ r2' := Nat.le_trans hW.size q1))))
  all_goals
    go_wp2_with fail
    go_end0
    exact ⟨rfl, r2', hQ1, q2, q3, hQ4⟩
end Go.Proofs.Ytldcpnabgpjgiaa.Walks
