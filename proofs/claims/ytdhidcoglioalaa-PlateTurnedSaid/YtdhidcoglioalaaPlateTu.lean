/-
  The walk of PlateTurned.
-/
import Derived.Test.YtdhidcoglioalaaPlOpen
import Derived.Laws.IdiomCopy
namespace Go.Proofs.Ytdhidcoglioalaa.Walks
open Go.RowKit Plain
set_option linter.unusedVariables false

theorem info5s : (Try.prog.info? 5).map (·.size) = some 1 := by kernel_rfl
theorem take_secL (l : List Byte) : (l.take 64).map byteV ++ (secL (oneS 0)).drop ((l.take 64).map byteV).length = secL (secOf l) := by
  apply List.ext_getElem?
  intro j
  by_cases hj : j < 64
  · rw [secL_get _ hj]
    by_cases hl : j < l.length
    · rw [List.getElem?_append_left (by simp; omega)]
      simp [secOf, List.getD_eq_getElem?_getD, hj, hl]
    · rw [List.getElem?_append_right (by simp; omega), List.getElem?_drop, Nat.add_sub_cancel' (by simp; omega), secL_get _ hj]
      simp [secOf, oneS, List.getD_eq_getElem?_getD, List.getElem?_eq_none (show l.length ≤ j by omega)]
  · rw [List.getElem?_eq_none (by rw [List.length_append, List.length_drop, secL_length]; simp; omega), List.getElem?_eq_none (by rw [secL_length]; omega)]
set_option maxRecDepth 10000 in
theorem copy64 (w : World) (a : Option Addr) (l : List Byte) (cap : Nat) (hB : Bys (w.alloc (.cells (secC (oneS 0#8)) 5)) a l) :
    (Builtin.copy_ #[42, 42] 3 #[.slice (some ⟨w.heap.size, 0, none⟩) 64 64, .slice a l.length cap]).run Try.prog (w.alloc (.cells (secC (oneS 0#8)) 5)) = .ok (goInt (Nat.min l.length 64)) (w.alloc (.cells (secC (secOf l)) 5)) := by
  by_cases h0 : l.length = 0
  · obtain rfl := List.eq_nil_of_length_eq_zero h0
    have e : secC (secOf []) = secC (oneS 0#8) := secC_congr fun j _ => by simp [secOf, oneS]
    rw [e]
    exact run_copy_none _ 42 42 3 5 _ a 64 64 0 cap Try.underlying42 info5s rfl
  · obtain ⟨b, off, rfl, _, hc⟩ := hB.at_lt (i := 0) (by omega)
    have hlen : ((l.take 64).map byteV).length = Nat.min l.length 64 := by
      rw [List.length_map, List.length_take]
      exact Nat.min_comm _ _
    have h := run_copy_cells (P := Try.prog) (w.alloc (.cells (secC (oneS 0#8)) 5)) 42 42 3 5 w.heap.size 0 64 64 ⟨b, off, none⟩ l.length cap ((l.take 64).map byteV) Try.underlying42 info5s hlen
      (fun j v hv => by
        rw [Addr.add_mid]
        have hj : j < l.length := by
          have := (List.getElem?_eq_some_iff.1 hv).1
          simp at this
          omega
        rw [hc j hj]
        rw [List.getElem?_map, List.getElem?_take] at hv
        split at hv
        · rw [List.getElem?_eq_getElem hj] at hv
          exact hv
        · cases hv)
      (fun j hj => by
        rw [hlen] at hj
        have hj : j < 64 := Nat.lt_of_lt_of_le hj (Nat.min_le_right _ _)
        rw [Nat.zero_add, cell_new, Array.getElem?_eq_getElem (by rw [secC_size]; exact hj)]
        rfl)
      (fun j _ => frozen_new _ _ _ _)
      (fun v hv => by
        obtain ⟨x, _, rfl⟩ := List.mem_map.1 hv
        rfl)
    rw [h, hlen]
    congr 1
    have hle : ((l.take 64).map byteV).length ≤ 64 := by rw [hlen]; exact Nat.min_le_right _ _
    have h2 := alloc_setCellsL w 5 ((l.take 64).map byteV) [] ((secL (oneS 0)).take ((l.take 64).map byteV).length) ((secL (oneS 0)).drop ((l.take 64).map byteV).length) (by rw [List.length_take, secL_length]; omega)
    rw [List.nil_append, List.take_append_drop, List.nil_append, take_secL] at h2
    exact h2
section
variable {w w1 w2 : World} {q : PLoc} {P P' : Pl}
theorem s_write {i : Int} {a : Option Addr} {l : List Byte} {cap n : Nat} {z : Int} (hn : l.length = n) (h : St w w1 q P) (hB : Bys w1 a l) (hdis : ∀ ad, a = some ad → ad.block ∉ q.R) (hz : P.writeE i l = z) (hP : P.write i l = P') :
    Calls Try.prog 23 #[pv q, .int .i64 i, .slice a n cap] w1 fun e w2 => e = .returned (.int .i64 z) ∧ St w w2 q P' ∧ Only q.R w1 w2 := by
  rw [← hz, ← hP, ← hn]
  refine Calls.mono (write_any w1 q P h.pl i a l cap hB hdis) ?_
  rintro e w2 ⟨rfl, hp, ho⟩
  exact ⟨rfl, h.only hp ho, ho⟩
theorem s_turn {i bit z : Int} (h : St w w1 q P) (hz : P.turnE i bit = z) (hP : P.turn i bit = P') : Calls Try.prog 27 #[pv q, .int .i64 i, .int .i64 bit] w1 fun e w2 => e = .returned (.int .i64 z) ∧ St w w2 q P' ∧ Only q.R w1 w2 := by
  rw [← hz, ← hP]
  refine Calls.mono (turn_any w1 q P h.pl i bit) ?_
  rintro e w2 ⟨rfl, hp, ho⟩
  exact ⟨rfl, h.only hp ho, ho⟩
theorem s_read {k : Nat} {s : Sec} (h : St w w1 q P) (hk : k < P.n) (hd : P.dead = false) (hs : P.seen k = s) : Calls Try.prog 28 #[pv q, .int .i64 k] w1 fun e w2 => ∃ g, e = .returned (.tuple #[.slice (some ⟨g, 0, none⟩) 64 64, .int .i64 0]) ∧ w2.heap[g]? = some (.cells (secC s) 88 (0, 0)) ∧ St w w2 q P ∧ Below w1.heap.size w1 w2 := by
  rw [← hs]
  refine Calls.mono (read_ok w1 q P h.pl k hk hd) ?_
  rintro e w2 ⟨hb, g, rfl, _, hg⟩
  exact ⟨g, rfl, hg, h.below hb, hb⟩
end
theorem eqB_is {l l' : List Byte} {n n' : Nat} {r : Bool} {a a' : Option Addr} {cap cap' : Nat} {w : World} (hn : l.length = n) (hn' : l'.length = n') (hr : decide (l = l') = r) (hB : Bys w a l) (hB' : Bys w a' l') :
    Calls Try.prog 29 #[.slice a n cap, .slice a' n' cap'] w fun e w' => e = .returned (.bool r) ∧ Below w.heap.size w w' := by
  rw [← hn, ← hn', ← hr]
  exact eqBytes_any a a' cap cap' l l' w hB hB'
def U0 : Pl := Pl.made 3
def U1 (s : Sec) : Pl := { U0 with waits := upd U0.waits 1 (some (secOf (bytesOf s))) }
def U2 (s : Sec) (k : Nat) : Pl := (U1 s).turned 1 k
def U3 (s : Sec) (k : Nat) : Pl := (U2 s k).crash []
def U4 (s : Sec) (k : Nat) : Pl := (U3 s k).boot
theorem U1_E (s : Sec) : U0.writeE 1 (bytesOf s) = 0 ∧ U0.write 1 (bytesOf s) = U1 s := by
  have h0 : U0.has 1 = 0 := rfl
  have hl := bytesOf_length s
  constructor
  · unfold Pl.writeE
    rw [if_neg (by rw [h0]; simp), if_neg (by rw [hl]; simp)]
    rfl
  · unfold Pl.write
    rw [if_neg (by rw [h0]; simp), if_neg (by rw [hl]; simp)]
    rfl
theorem U2_E (s : Sec) {k : Nat} (hk : k < 512) : (U1 s).turnE 1 k = 0 ∧ (U1 s).turn 1 k = U2 s k := by
  have h0 : (U1 s).has 1 = 0 := rfl
  have h1 : (U1 s).turnE 1 k = 0 := by
    unfold Pl.turnE
    rw [if_neg (by rw [h0]; simp), if_neg (by omega)]
  refine ⟨h1, ?_⟩
  unfold Pl.turn
  rw [if_neg (by rw [h1]; simp)]
  rfl
theorem U4_seen (s : Sec) {k : Nat} (hk : k < 512) : bytesOf ((U4 s k).seen 1) = bytesOf (Pl.flip s k) := by
  unfold bytesOf
  refine List.map_congr_left fun j hj => ?_
  have hj := List.mem_range.1 hj
  show Pl.flip (secOf (bytesOf s)) k j = Pl.flip s k j
  have e : ∀ i, i < 64 → secOf (bytesOf s) i = s i := fun i hi => by simp [secOf, bytesOf, List.getD_eq_getElem?_getD, hi]
  unfold Pl.flip upd
  rw [e _ hj, e _ (show k / 8 < 64 by omega)]
/-- A block that a plate's calls leave alone. -/
theorem keepG {w1 w2 : World} {R : List Nat} {g : Nat} {o : Obj} (h : w1.heap[g]? = some o) (ho : Only R w1 w2) (hg : g ∉ R) : w2.heap[g]? = some o := (ho.block g (lt_of_heap h) hg).trans h
theorem bys_secT {w : World} {g : Nat} {s : Sec} {t : TypeId} (h : w.heap[g]? = some (.cells (secC s) t (0, 0))) {R : List Nat} (hg : g ∉ R) : Bys w (some ⟨g, 0, none⟩) (bytesOf s) ∧ ∀ ad, some (⟨g, 0, none⟩ : Addr) = some ad → ad.block ∉ R :=
  ⟨bys_sec h, fun ad e => by cases e; exact hg⟩
/-- A list of bools does not lie where bytes do. -/
theorem bools_off {w w' : World} {g : Nat} {s : Sec} {t : TypeId} {a : Option Addr} {l : List Bool} (h : w.heap[g]? = some (.cells (secC s) t (0, 0))) (ho : Only [g] w w') (hB : Bools w a l) : Bools w' a l := by
  refine ⟨hB.1, ?_⟩
  rcases hB.2 with rfl | ⟨b, off, rfl, hh⟩
  · exact .inl rfl
  · by_cases e : b = g
    · subst e
      by_cases h0 : l.length = 0
      · exact .inl (List.eq_nil_of_length_eq_zero h0)
      · exfalso
        have h1 := hh 0 (by omega)
        rw [cell_of_row _ _ _ _ _ _ h] at h1
        by_cases h2 : off < 64
        · rw [show off + 0 = off by omega, show (secC s)[off]? = some (byteV (s off)) by simp [secC, secL_get _ h2]] at h1
          cases h1
        · rw [Array.getElem?_eq_none (by rw [secC_size]; omega)] at h1
          cases h1
    · exact .inr ⟨b, off, rfl, fun i hi => ho.cell (by simp [e]) (hh i hi)⟩
set_option maxRecDepth 20000 in
set_option maxHeartbeats 4000000 in
theorem plateTurned_walk (a : Option Addr) (cap : Nat) (l : List Byte) (n : Int) (w : World) (hB : Bys w a l) (_ : a = none → cap = 0) (_ : l.length ≤ cap) :
    Calls Try.prog 6 #[.slice a l.length cap, .int .i64 n] w fun e w' => e = .returned (.bool true) ∧ Below w.heap.size w w' := by
  obtain ⟨k, hk⟩ : ∃ k : Nat, n % 512 = k := ⟨(n % 512).toNat, by omega⟩
  have hk5 : k < 512 := by omega
  have HBr := Lib.hid (bring_any n 512)
  have HB := Lib.hid hB
  obtain ⟨m, hm⟩ : ∃ m, m = l.length := ⟨_, rfl⟩
  rw [← hm]
  have HM := Lib.hid hm
  obtain ⟨s, hs⟩ : ∃ s, s = secOf l := ⟨_, rfl⟩
  have HSe := Lib.hid hs
  clear hB hm hs
  go_enter Try.func6, Try.ntmps6
  go_wp2_with fail
  refine Calls.mono (s_new 3 (by decide) (by decide) w w (Below.refl _ _)) ?_
  rintro e w1 ⟨q, rfl, hS, _, _⟩
  have HS := Lib.hid hS
  clear hS
  go_wp2_with fail
  refine Calls.mono (s_full (b := 0) rfl _) ?_
  rintro e w2 ⟨rfl, rfl⟩
  have hcp := copy64 w1 a l cap (HB.out.below (Below.step HS.out.be (Below.new _ _)))
  rw [← HM.out, ← HSe.out] at hcp
  have hgR : w1.heap.size ∉ q.R := fun hm => Nat.lt_irrefl _ (HS.out.pl.lt _ hm)
  have HG := Lib.hid hgR
  have HGe := Lib.hid HS.out.be.size
  clear hgR
  go_wp2_with fail
  refine Calls.mono (HBr.out _ (by decide) (by decide)) ?_
  rintro e w2 ⟨rfl, rfl⟩
  rw [hk]
  obtain ⟨g, hg⟩ : ∃ g, g = w1.heap.size := ⟨_, rfl⟩
  rw [← hg] at HG HGe ⊢
  obtain ⟨wA, hwA⟩ : ∃ x, x = w1.alloc (.cells (secC s) 5) := ⟨_, rfl⟩
  rw [← hwA]
  have hS := HS.out.below (Below.new w1 (.cells (secC s) 5))
  rw [← hwA] at hS
  have HX : Hid (wA.heap[g]? = some (.cells (secC s) 5 (0, 0))) := Lib.hid (by rw [hwA, hg]; exact heap_alloc_new _ _)
  clear hwA hg hk hcp HBr
  clear HS
  have HS := Lib.hid hS
  clear hS
  go_wp2_with fail
  refine Calls.mono (s_write (P' := U1 s) (z := 0) (bytesOf_length s) HS.out (bys_secT HX.out HG.out).1 (bys_secT HX.out HG.out).2 (U1_E s).1 (U1_E s).2) ?_
  rintro e w3 ⟨rfl, hS, hO⟩
  have HX3 := Lib.hid (keepG HX.out hO HG.out)
  clear hO HX
  clear HS
  have HS := Lib.hid hS
  clear hS
  go_wp2_with fail
  have HK5 := Lib.hid hk5
  refine Calls.mono (s_turn (P' := U2 s k) (z := 0) HS.out (U2_E s HK5.out).1 (U2_E s HK5.out).2) ?_
  rintro e w4 ⟨rfl, hS, hO⟩
  have HX4 := Lib.hid (keepG HX3.out hO HG.out)
  clear hO HX3
  clear HS
  have HS := Lib.hid hS
  clear hS
  go_wp2_with fail
  refine Calls.mono (s_waits (l := []) HS.out rfl rfl) ?_
  rintro e w5 ⟨a5, c5, rfl, _, hS, hb⟩
  have HX5 := Lib.hid (keepG HX4.out (Only.of_below (R := []) hb) (by simp))
  clear hb HX4
  clear HS
  have HS := Lib.hid hS
  clear hS
  go_wp2_with fail
  refine Calls.mono (s_crash (P' := U3 s k) (l := []) rfl HS.out (Bools.nil _ none) (fun ad e => by cases e) (z := 0) rfl rfl) ?_
  rintro e w6 ⟨rfl, hS, hO⟩
  have HX6 := Lib.hid (keepG HX5.out hO HG.out)
  clear hO HX5
  clear HS
  have HS := Lib.hid hS
  clear hS
  go_wp2_with fail
  refine Calls.mono (s_boot (P' := U4 s k) HS.out rfl) ?_
  rintro e w7 ⟨rfl, hS, hO⟩
  have HX7 := Lib.hid (keepG HX6.out hO HG.out)
  clear hO HX6
  clear HS
  have HS := Lib.hid hS
  clear hS
  have hm8 : k / 8 < 64 := by omega
  have hcell : w7.cell? ⟨g, k / 8, none⟩ = some (.int .u8 ((s (k / 8)).toNat : Int)) := by
    rw [cell_of_row _ _ _ _ _ _ HX7.out]
    simp [secC, secL_get _ hm8]
    rfl
  have hfz : w7.frozen? ⟨g, k / 8, none⟩ = false := by
    unfold World.frozen?
    simp only [HX7.out]
    simp
  go_wp2_with fail
  go_region
  obtain ⟨w8, hw8⟩ : ∃ x, x = (w7.setCell ⟨g, k / 8, none⟩ (.int .u8 (bits .xor .u8 ((s (k / 8)).toNat : Int) (2 ^ (k % 8) % 256)))).drew := ⟨_, rfl⟩
  rw [← hw8]
  have HX8 : Hid (w8.heap[g]? = some (.cells (secC (Pl.flip s k)) 5 (0, 0))) := Lib.hid (by
    rw [hw8, ← flip_set]
    exact heap_setCell_same _ _ _ _ _ _ HX7.out)
  have hO8 : Only [g] w7 w8 := by rw [hw8]; exact ((Only.refl _ _).setCell (by simp) _).drew
  have hP8 := HS.out.pl.only hO8 (fun b hb hm => HG.out (by simp at hm; exact hm ▸ hb)) (fun a l _ hB => bools_off HX7.out hO8 hB)
  have hbe8 : Below w.heap.size w w8 := Only.below HS.out.be hO8 (fun r hr => by simp at hr; subst hr; exact HGe.out) (Nat.le_refl _)
  have hS : St w w8 q (U4 s k) := ⟨hP8, hbe8, HS.out.ge⟩
  clear hP8 hO8 hbe8 hcell hfz HX7 hw8
  clear HS
  have HS := Lib.hid hS
  clear hS
  have hsn := U4_seen s HK5.out
  go_wp2_with fail
  refine Calls.mono (s_read (k := 1) HS.out (by show 1 < 3; omega) rfl rfl) ?_
  rintro e w9 ⟨g9, rfl, hg9, hS, hb⟩
  have hb1 := (bys_secT (R := []) hg9 (by simp)).1
  rw [hsn] at hb1
  have HY := Lib.hid hb1
  have HX9 := Lib.hid (bys_secT (R := []) (keepG HX8.out (Only.of_below (R := []) hb) (by simp)) (by simp)).1
  clear hb1 hg9 hsn hb
  clear HS
  have HS := Lib.hid hS
  clear hS
  go_wp2_with fail
  refine Calls.mono (eqB_is (r := true) (bytesOf_length _) (bytesOf_length _) (decide_eq_true rfl) HX9.out HY.out) ?_
  rintro e w10 ⟨rfl, hb⟩
  have hS := HS.out.below hb
  clear hb
  clear HS
  have HS := Lib.hid hS
  clear hS
  go_wp2_with fail
  refine Calls.mono (s_has (b := 0) (r := true) rfl HS.out rfl) ?_
  rintro e w11 ⟨rfl, hS, _⟩
  clear HS
  have HS := Lib.hid hS
  clear hS
  go_wp2_with fail
  refine Calls.mono (s_has (b := 0) (r := true) rfl HS.out rfl) ?_
  rintro e w12 ⟨rfl, hS, _⟩
  clear HS
  have HS := Lib.hid hS
  clear hS
  go_wp2_with fail
  refine Calls.mono (awake_any _) ?_
  rintro e w13 ⟨rfl, hb⟩
  have HBe := Lib.hid hb
  clear hb
  go_wp2
  go_ret
  exact ⟨rfl, Below.step HS.out.be HBe.out⟩
end Go.Proofs.Ytdhidcoglioalaa.Walks
