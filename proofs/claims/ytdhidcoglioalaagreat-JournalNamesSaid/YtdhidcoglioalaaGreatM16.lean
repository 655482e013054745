/-
  The document's plate: flushing, what waits.
  The document's plate: a bit is turned.
-/
import Derived.Test.YtdhidcoglioalaaGreatM15
namespace Go.Proofs.YtdhidcoglioalaaGreat.Walks
open Go.RowKit Plain
set_option linter.unusedVariables false

def fS (P : Pl) (i j : Nat) : Sec := if j < i then P.seen j else P.stays j
def fF (P : Pl) (i j : Nat) : Bool := if j < i then false else waitB P j
structure FlR (w wr : World) (r : RLoc) (P : Pl) (i : Nat) : Prop where
  x : RefX wr r P.n (fS P i) P.seen (fF P i) P.dead P.fails P.left P.keep
  o : Only r.R w wr
set_option maxRecDepth 10000 in
set_option maxHeartbeats 1000000 in
theorem rf_flush (w : World) (r : RLoc) (P : Pl) (h : RefAt w r P) : Calls Tryz.prog 109 #[rv r] w fun e w' => e = .returned (.int .i64 P.flushE) ∧ RefAt w' r P.flush ∧ Only r.R w w' := by
  have c3 := h.x.c3
  cases hd : P.dead
  · rw [hd] at c3
    have hf := rf_fails w r P h
    cases hg : P.goes
    · have e1 : P.flushE = 0 := by simp [Pl.flushE, hd, hg]
      have e2 : P.flush = P.did.settled := by simp [Pl.flush, hd, hg]
      rw [e1, e2]
      rw [hg] at hf
      have HF := Lib.hid hf
      obtain ⟨Q, hQ⟩ : ∃ Q, Q = P.did := ⟨_, rfl⟩
      rw [← hQ] at HF ⊢
      clear h hf hd hg e1 e2 hQ
      go_enter Tryz.func109, Tryz.ntmps109
      go_wp2_with fail
      refine Calls.mono HF.out ?_
      rintro e w1 ⟨rfl, hP, hO⟩
      obtain ⟨n, hn⟩ : ∃ n, n = Q.n := ⟨_, rfl⟩
      have hn4 : n ≤ 4096 := by have := hP.x.n2; omega
      have HN := Lib.hid hn
      have HP := Lib.hid hP
      have HO := Lib.hid hO
      clear hP hO hn
      go_wp2_with fail
      go_loopw [3] (fun i wr => ∃ j : Nat, j ≤ n ∧ i = .int .i64 j ∧ Hid (FlR w1 wr r Q j)) (fun i _ => n - (RowKit.intOf i).toNat)
      case atStart =>
        refine ⟨0, by omega, rfl, Lib.hid ⟨HP.out.x.congr (fun i hi => ?_) (fun i hi => rfl) (fun i hi => ?_), Only.refl _ _⟩⟩
        · unfold fS; rw [if_neg (by omega)]
        · unfold fF; rw [if_neg (by omega)]
      case round =>
        obtain ⟨j, hj, rfl, HG⟩ := hrel
        obtain ⟨x1, c1⟩ := HG.out.x.c1
        rw [← HN.out] at c1
        by_cases hlt : j < n
        · have hjn : j < Q.n := by have := HN.out; omega
          obtain ⟨x0, c0⟩ := HG.out.x.c0
          obtain ⟨x2, c2⟩ := HG.out.x.c2
          rw [← HN.out] at c0 c2
          obtain ⟨ff, fc⟩ := HG.out.x.fl j hjn
          obtain ⟨sf, sv, sc, sg, so, sx, rfl, _, _⟩ := HG.out.x.st j hjn
          obtain ⟨nf, nv, nc, ng, no, nx, rfl, hnr, hng⟩ := HG.out.x.sn j hjn
          have HNr : Hid (RowV wr r.N (.slice (some ⟨ng, no, none⟩) 64 nx) (Q.seen j)) := Lib.hid ⟨ng, no, nx, rfl, hnr, hng⟩
          obtain ⟨e1, e2, e3, e4, e5, e6⟩ := HG.out.x.ne
          clear hjn hnr hng
          go_wp2_with fail
          go_region
          go_wp2
          go_roundw
          case rel =>
            have h1 := HG.out.x.setS (i := j) HNr.out
            have h3 := h1.setW (i := j) false
            refine ⟨j + 1, by omega, by go_num, Lib.hid ⟨(h3.congr (fun i hi => ?_) (fun i hi => rfl) (fun i hi => ?_)).below (below_drewN (Below.refl _ _) 1), ?_⟩⟩
            · exact congrArg secL (g_at _ _ j i _ rfl)
            · exact g_at (fun _ => false) (waitB Q) j i false rfl
            · exact ((HG.out.o.setCell (p := ⟨r.sb, j, none⟩) r.inS _).setCell (p := ⟨r.wb, j, none⟩) r.inW _).drew
          case measure => simp [RowKit.intOf]; omega
        · obtain rfl : j = n := by omega
          go_wp2
          go_ret
          refine ⟨rfl, ⟨HG.out.x.congr (fun i hi => ?_) (fun i hi => ?_) (fun i hi => ?_), HP.out.ok.settled⟩, HO.out.trans HG.out.o⟩
          · have := HN.out
            show secL (Q.seen i) = secL (fS Q j i)
            unfold fS
            rw [if_pos (by omega)]
          · rfl
          · have := HN.out
            show false = fF Q j i
            unfold fF
            rw [if_pos (by omega)]
    · have e1 : P.flushE = 50 := by simp [Pl.flushE, hd, hg]
      have e2 : P.flush = P.did := by simp [Pl.flush, hd, hg]
      rw [e1, e2]
      rw [hg] at hf
      have HF := Lib.hid hf
      clear h hf hd hg e1 e2
      go_enter Tryz.func109, Tryz.ntmps109
      go_wp2_with fail
      refine Calls.mono HF.out ?_
      rintro e w1 ⟨rfl, hP, hO⟩
      have HP := Lib.hid hP
      have HO := Lib.hid hO
      clear hP hO
      go_wp2
      go_ret
      exact ⟨rfl, HP.out, HO.out⟩
  · rw [hd] at c3
    have e1 : P.flushE = 50 := by simp [Pl.flushE, hd]
    have e2 : P.flush = P := by simp [Pl.flush, hd]
    rw [e1, e2]
    have H := Lib.hid h
    clear h hd e1 e2
    go_enter Tryz.func109, Tryz.ntmps109
    go_wp2
    go_ret
    exact ⟨rfl, H.out, Only.refl _ _⟩
theorem info3 : (Tryz.prog.info? 3).map (fun i => (i.zero, i.size, i.bytes)) = some (some (.int .i64 0), 1, 8) := by kernel_rfl
/-- A row of the call's own: so many ints, or nothing. -/
def OwnI (w : World) (base : Nat) (a : Option Addr) (c : Nat) (l : List Nat) : Prop := w.ownsRow base 3 1 (.slice a l.length c) l.length (l.map fun (i : Nat) => Value.int .i64 (i : Int))
theorem OwnI.ints {w : World} {base : Nat} {a : Option Addr} {c : Nat} {l : List Nat} (h : OwnI w base a c l) (hm : l.length ≤ 4096) : IntsN w a l := by
  have h' : w.ownsRow base 3 1 (.slice a l.length c) (l.map fun (i : Nat) => (i : Int)).length ((l.map fun (i : Nat) => (i : Int)).map encZ) := by
    rw [List.length_map, List.map_map]
    exact h
  obtain ⟨a', c', e, h1, _⟩ := row_ints h' (by rw [List.length_map]; omega)
  simp only [Value.slice.injEq] at e
  obtain ⟨rfl, _, rfl⟩ := e
  exact h1
/-- append(v, i), v the call's own. -/
theorem wp_append_i {w : World} {ops : Array Oper} {rest : List Oper} {o : Oper} {a : Act} {Q : Exit → Act → World → Prop} (hgd : o.guard = none) (s x : Operand)
    (ho : o.op = .call { callee := .builtin .append, args := #[s, x], argTypes := #[60, 60] }) (base : Nat) (ao : Option Addr) (c : Nat) (l : List Nat) (hs : a.eval s = .slice ao l.length c) (hown : OwnI w base ao c l)
    (g c2 : Nat) (i : Nat) (hx : a.eval x = .slice (some ⟨g, 0, none⟩) 1 c2) (hg : w.cell? ⟨g, 0, none⟩ = some (.int .i64 (i : Int))) (hbase : base ≤ w.heap.size) (hlen : l.length ≤ 4096)
    (h : ∀ a' cap' w', OwnI w' base a' cap' (l ++ [i]) → w.grownBy w' (Value.slice ao l.length c).ownBlock → wpList Tryz.prog ops Q rest (a.put o.dst (.slice a' (l.length + 1) cap')) w') : wpList Tryz.prog ops Q (o :: rest) a w := by
  obtain ⟨i0, hi, hz0, hz1, hz2⟩ := info_parts info3
  refine wpList_append_own w hgd s x 60 ho base 3 i0 (.int .i64 0) 1 8 Tryz.underlying60 hi hz0 hz1 hz2 rfl (by decide) (.slice ao l.length c) l.length (l.map fun (i : Nat) => Value.int .i64 (i : Int)) hs hown ⟨g, 0, none⟩ 1 c2 [.int .i64 (i : Int)] hx (by simp)
    (fun j u hj => by
      cases j with
      | zero => simp at hj; subst hj; rw [add0]; exact hg
      | succ j => simp at hj) (fun u hu => by simp at hu; subst hu; rfl)
      (by unfold maxLen; omega) (by omega) hbase ?_
  intro v' w' h1 h2 h3
  have h1' := h1
  obtain ⟨_, ⟨e, h0⟩ | ⟨g', cap', cur, e, _⟩⟩ := h1'
  · simp at h0
  · subst e
    exact h _ _ w' (by unfold OwnI; rw [List.length_append, List.map_append]; exact h1) h2
theorem OwnI.block {w : World} {base : Nat} {a : Option Addr} {c : Nat} {l : List Nat} (h : OwnI w base a c l) {k : Nat} (hk : (Value.slice a l.length c).ownBlock = some k) : base ≤ k := by
  obtain ⟨_, ⟨e, _⟩ | ⟨g, cap', cur, e, hb, _⟩⟩ := h
  · rw [e] at hk; cases hk
  · rw [e] at hk; cases hk; exact hb
def wsT (P : Pl) (i : Nat) : List Nat := (List.range i).filter fun j => (P.waits j).isSome
theorem wsT_succ (P : Pl) (i : Nat) : wsT P (i + 1) = if waitB P i then wsT P i ++ [i] else wsT P i := by
  unfold wsT waitB
  rw [List.range_succ, List.filter_append]
  by_cases h : (P.waits i).isSome <;> simp [h]
theorem wsT_len (P : Pl) (i : Nat) : (wsT P i).length ≤ i := by
  have := List.length_filter_le (fun j => (P.waits j).isSome) (List.range i)
  rwa [List.length_range] at this
structure WtR (w wr : World) (a : Option Addr) (c : Nat) (l : List Nat) : Prop where
  own : OwnI wr w.heap.size a c l
  be : Below w.heap.size w wr
set_option maxRecDepth 10000 in
set_option maxHeartbeats 1000000 in
theorem rf_waits (w : World) (r : RLoc) (P : Pl) (h : RefAt w r P) : Calls Tryz.prog 91 #[rv r] w fun e w' => ∃ a c, e = .returned (.slice a P.ws.length c) ∧ IntsN w' a P.ws ∧ Below w.heap.size w w' := by
  obtain ⟨n, hn⟩ : ∃ n, n = P.n := ⟨_, rfl⟩
  have hn4 : n ≤ 4096 := by have := h.x.n2; omega
  have HN := Lib.hid hn
  have H := Lib.hid h
  clear h hn
  go_enter Tryz.func91, Tryz.ntmps91
  go_wp2_with fail
  go_loopw [3, 4] (fun v i wr => ∃ j : Nat, j ≤ n ∧ i = .int .i64 j ∧ ∃ a m c, v = .slice a m c ∧ Hid (m = (wsT P j).length ∧ WtR w wr a c (wsT P j))) (fun _ i _ => n - (RowKit.intOf i).toNat)
  case atStart => exact ⟨0, by omega, rfl, none, 0, 0, rfl, Lib.hid ⟨rfl, World.ownsRow_nil _ _ _ _, Below.refl _ _⟩⟩
  case round =>
    obtain ⟨j, hj, rfl, a, m, c, rfl, HG⟩ := hrel
    obtain ⟨x1, c1⟩ := H.out.x.c1
    have c1 := keepc HG.out.2.be c1
    rw [← HN.out] at c1
    by_cases hlt : j < n
    · have hjn : j < P.n := by have := HN.out; omega
      obtain ⟨x2, c2⟩ := H.out.x.c2
      have c2 := keepc HG.out.2.be c2
      rw [← HN.out] at c2
      obtain ⟨ff, fc⟩ := H.out.x.fl j hjn
      have fc := keepc HG.out.2.be fc
      have hsu := wsT_succ P j
      cases hw : waitB P j
      · rw [hw] at fc hsu
        have HS := Lib.hid hsu
        clear hw hsu hjn ff
        go_wp2
        go_roundw
        case rel => exact ⟨j + 1, by omega, by go_num, a, m, c, rfl, Lib.hid (by rw [HS.out]; exact HG.out)⟩
        case measure => simp [RowKit.intOf]; omega
      · rw [hw] at fc hsu
        have HS := Lib.hid hsu
        clear hw hsu hjn ff
        have hml : m ≤ j := by rw [HG.out.1]; exact wsT_len P j
        go_wp2_with (first | (at_builtin; go_loud (refine wp_append_i rfl (.tmp 21) (.tmp 23) rfl w.heap.size a c (wsT P j) (by rw [← HG.out.1]; rfl) (HG.out.2.own.alloc _) wr.heap.size 1 j rfl (cell_new _ _ _ 0) (by have := HG.out.2.be.size; simp; omega) (by have := wsT_len P j; omega) ?_)))
        intro a' cap' w' hown hg
        have HOw := Lib.hid hown
        have HGr := Lib.hid hg
        clear hown hg
        go_wp2
        go_roundw
        case rel =>
          refine ⟨j + 1, by omega, by go_num, a', (wsT P j).length + 1, cap', rfl, Lib.hid ⟨by rw [HS.out]; simp, by rw [HS.out]; simpa using HOw.out, ?_⟩⟩
          exact (Below.step HG.out.2.be (Below.new _ _)).grown HGr.out (by have := HG.out.2.be.size; simp; omega) (fun k hk => HG.out.2.own.block hk)
        case measure => simp [RowKit.intOf]; omega
    · obtain rfl : j = n := by omega
      go_wp2
      go_ret
      refine ⟨a, c, ?_, ?_, HG.out.2.be⟩
      · have h1 := HG.out.1
        rw [h1, HN.out]
        rfl
      · have h1 := HG.out.2.own.ints (by have := wsT_len P j; omega)
        rw [HN.out] at h1
        exact h1
end Go.Proofs.YtdhidcoglioalaaGreat.Walks
namespace Go.Proofs.YtdhidcoglioalaaGreat.Walks
open Go.RowKit Plain
set_option linter.unusedVariables false

theorem rf_turned {w : World} {r : RLoc} {P : Pl} {k m : Nat} (h : RefX w r P.n (upd P.stays k (Pl.flip (P.seen k) m)) (upd P.seen k (Pl.flip (P.seen k) m)) (upd (waitB P) k false) P.dead P.fails P.left P.keep) (hok : P.Ok) : RefAt w r (P.turned k m) :=
  ⟨h.congr (fun _ _ => rfl) (fun i _ => by
    show secL ((upd P.waits k none i).getD (upd P.stays k (Pl.flip (P.seen k) m) i)) = _
    by_cases e : i = k
    · rw [e, upd_same, upd_same, upd_same]; rfl
    · rw [upd_other _ _ e, upd_other _ _ e, upd_other _ _ e]; rfl) (fun i _ => by
    show (upd P.waits k none i).isSome = _
    by_cases e : i = k
    · rw [e, upd_same, upd_same]; rfl
    · rw [upd_other _ _ e, upd_other _ _ e]; rfl), hok.turned k m⟩
/-- A byte of a row that is none of the plate's blocks is turned. -/
theorem row_flip {w : World} {g o m : Nat} {s : Sec} (hr : w.rangeAt g o (secL s)) (hm : m / 8 < 64) :
    (w.setCell ⟨g, o + m / 8, none⟩ (.int .u8 (bits .xor .u8 ((s (m / 8)).toNat : Int) (2 ^ (m % 8) % 256)))).rangeAt g o (secL (Pl.flip s m)) := by
  rw [flip_int]
  intro j v hv
  have hj : j < 64 := by
    have := (List.getElem?_eq_some_iff.1 hv).1
    rwa [secL_length] at this
  rw [secL_get _ hj] at hv
  rw [← hv]
  unfold Pl.flip
  by_cases e : j = m / 8
  · subst e
    rw [upd_same]
    exact World.cell?_setCell_same _ _ _ (hr _ _ (secL_get s hj))
  · rw [upd_other _ _ e, World.cell?_setCell_other _ _ _ _ (fun h => e (by injection h with _ h2 _; omega))]
    exact hr _ _ (secL_get s hj)
set_option maxRecDepth 10000 in
set_option maxHeartbeats 1000000 in
theorem rf_turn (w : World) (r : RLoc) (P : Pl) (h : RefAt w r P) (i bit : Int) :
    Calls Tryz.prog 77 #[rv r, .int .i64 i, .int .i64 bit] w fun e w' => e = .returned (.int .i64 (P.turnE i bit)) ∧ RefAt w' r (P.turn i bit) ∧ Only r.R w w' := by
  have c3 := h.x.c3
  cases hd : P.dead
  · rw [hd] at c3
    have ht := rf_there w r P h i
    rw [there_of hd] at ht
    by_cases h0 : P.has i = 0
    · rw [decide_eq_true h0] at ht
      obtain ⟨_, h1, h2⟩ := Pl.has_zero h0
      obtain ⟨k, rfl⟩ : ∃ k : Nat, i = k := ⟨i.toNat, by omega⟩
      have hk : k < P.n := by omega
      by_cases hb : bit < 0 ∨ 512 ≤ bit
      · have e1 : P.turnE k bit = 9 := by simp [Pl.turnE, h0, hb]
        have e2 : P.turn k bit = P := by simp [Pl.turn, e1]
        rw [e1, e2]
        have HT := Lib.hid ht
        have H := Lib.hid h
        clear h ht hd h0 h1 h2 hk e1 e2
        by_cases hb0 : bit < 0
        · clear hb
          go_enter Tryz.func77, Tryz.ntmps77
          go_wp2_with fail
          refine Calls.mono HT.out ?_
          rintro e w' ⟨rfl, rfl⟩
          go_wp2
          go_ret
          exact ⟨rfl, H.out, Only.refl _ _⟩
        · have hb1 : 511 < bit := by omega
          clear hb
          go_enter Tryz.func77, Tryz.ntmps77
          go_wp2_with fail
          refine Calls.mono HT.out ?_
          rintro e w' ⟨rfl, rfl⟩
          go_wp2
          go_ret
          exact ⟨rfl, H.out, Only.refl _ _⟩
      · have e1 : P.turnE k bit = 0 := by simp [Pl.turnE, h0, hb]
        obtain ⟨m, rfl⟩ : ∃ m : Nat, bit = m := ⟨bit.toNat, by omega⟩
        have hm : m < 512 := by omega
        have hm8 : m / 8 < 64 := by omega
        have e2 : P.turn k m = P.turned k m := by simp [Pl.turn, e1]
        rw [e1, e2]
        obtain ⟨x1, c1⟩ := h.x.c1
        obtain ⟨nf, nv, nc, ng, no, nx, rfl, hnr, hng⟩ := h.x.sn k hk
        have hcp := rf_copyN (some ⟨ng, no, none⟩) nx (bytesOf (P.seen k)) 64 (bytesOf_length _) (RowV.bys (R := r.R) (c := nx) hnr) (fun e => by cases e)
        have HT := Lib.hid ht
        have HCp := Lib.hid hcp
        have H := Lib.hid h
        obtain ⟨n, hn⟩ : ∃ n, n = P.n := ⟨_, rfl⟩
        rw [← hn] at c1
        have hkn : k < n := by omega
        have hk4 : k < 4096 := by have := h.x.n2; omega
        have HN := Lib.hid hn
        have HK := Lib.hid hk
        clear h ht hd h0 h1 h2 hk hb e1 e2 hcp hnr hng hn
        go_enter Tryz.func77, Tryz.ntmps77
        go_wp2_with fail
        refine Calls.mono HT.out ?_
        rintro e w' ⟨rfl, rfl⟩
        go_wp2_with fail
        refine Calls.mono HCp.out ?_
        rintro e w1 ⟨a', c', rfl, hB, hfr, _, hb1⟩
        obtain ⟨g, o, rfl, hgl, hcc⟩ := hB.at_lt (i := 0) (by rw [bytesOf_length]; omega)
        have hgw : w.heap.size ≤ g := (hfr ⟨g, o, none⟩ rfl).1
        have hra := rangeAt_bys hB
        obtain ⟨s, hs⟩ : ∃ s, s = P.seen k := ⟨_, rfl⟩
        rw [← hs] at hra
        have hcell : w1.cell? ⟨g, o + m / 8, none⟩ = some (.int .u8 ((s (m / 8)).toNat : Int)) := hra _ _ (secL_get s hm8)
        have hfz : w1.frozen? ⟨g, o + m / 8, none⟩ = false := (hfr ⟨g, o, none⟩ rfl).2 _
        have HRa := Lib.hid hra
        have HGw := Lib.hid hgw
        have HSe := Lib.hid hs
        have HB1 := Lib.hid hb1
        clear hB hfr hra hcc hs hb1
        go_wp2_with fail
        go_region
        obtain ⟨w2, hw2⟩ : ∃ x, x = (w1.setCell ⟨g, o + m / 8, none⟩ (.int .u8 (bits .xor .u8 ((s (m / 8)).toNat : Int) (2 ^ (m % 8) % 256)))).drew := ⟨_, rfl⟩
        rw [← hw2]
        have hgR : g ∉ r.N := fun hm => by have h1 := H.out.x.ltN _ hm; have h2 := HGw.out; omega
        have hbe2 : Below w.heap.size w w2 := by rw [hw2]; exact (HB1.out.setCell (p := ⟨g, o + m / 8, none⟩) HGw.out _).drew
        have hrow : RowV w2 r.N (.slice (some ⟨g, o, none⟩) 64 c') (Pl.flip s m) := ⟨g, o, c', rfl, by rw [hw2]; exact row_flip HRa.out hm8, hgR⟩
        have h0 := H.out.x.below hbe2
        have h1 := h0.setN (i := k) hrow
        have h2 := h1.setS (i := k) (hrow.of (only_cell ((Only.refl r.R w2).setCell (p := ⟨r.nb, k, none⟩) r.inN _) (fun b hb => r.inN' hb)))
        have h3 := h2.setW (i := k) false
        obtain ⟨y1, c1⟩ := h0.c1
        obtain ⟨y0, c0⟩ := h0.c0
        obtain ⟨y2, c2⟩ := h0.c2
        rw [← HN.out] at c0 c1 c2
        obtain ⟨nf, nv, nc, ng2, no2, nx2, rfl, _, _⟩ := h0.sn k HK.out
        obtain ⟨sf, sv, sc, sg2, so2, sx2, rfl, _, _⟩ := h0.st k HK.out
        obtain ⟨ff, fc⟩ := h0.fl k HK.out
        obtain ⟨e1, e2, e3, e4, e5, e6⟩ := h0.ne
        rw [HSe.out] at h3
        have H3 := Lib.hid h3
        have HO3 := Lib.hid ((((Only.of_below (R := r.R) hbe2).setCell (p := ⟨r.nb, k, none⟩) r.inN (.slice (some ⟨g, o, none⟩) 64 c')).setCell (p := ⟨r.sb, k, none⟩) r.inS (.slice (some ⟨g, o, none⟩) 64 c')).setCell (p := ⟨r.wb, k, none⟩) r.inW (.bool false))
        clear hw2 hgR hbe2 hrow h0 h1 h2 h3 hcell hfz
        go_wp2
        go_ret
        exact ⟨rfl, rf_turned H3.out H.out.ok, HO3.out⟩
    · have e1 : P.turnE i bit = 9 := by simp [Pl.turnE, h0]; exact has_nine hd h0
      have e2 : P.turn i bit = P := by simp [Pl.turn, e1]
      rw [decide_eq_false h0] at ht
      rw [e1, e2]
      have HT := Lib.hid ht
      have H := Lib.hid h
      clear h ht hd h0 e1 e2
      go_enter Tryz.func77, Tryz.ntmps77
      go_wp2_with fail
      refine Calls.mono HT.out ?_
      rintro e w' ⟨rfl, rfl⟩
      go_wp2
      go_ret
      exact ⟨rfl, H.out, Only.refl _ _⟩
  · have h50 := has_dead (i := i) hd
    have e1 : P.turnE i bit = 50 := by simp [Pl.turnE, h50]
    have e2 : P.turn i bit = P := by simp [Pl.turn, e1]
    rw [e1, e2]
    rw [hd] at c3
    have H := Lib.hid h
    clear h hd h50 e1 e2
    go_enter Tryz.func77, Tryz.ntmps77
    go_wp2
    go_ret
    exact ⟨rfl, H.out, Only.refl _ _⟩
end Go.Proofs.YtdhidcoglioalaaGreat.Walks
