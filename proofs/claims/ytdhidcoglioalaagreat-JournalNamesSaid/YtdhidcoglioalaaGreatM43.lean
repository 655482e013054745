/-
  Both: the program's plate and journal, and the document's.
-/
import Derived.Test.YtdhidcoglioalaaGreatM41
import Derived.Test.YtdhidcoglioalaaGreatM32
import Derived.Test.YtdhidcoglioalaaGreatM42
namespace Go.Proofs.YtdhidcoglioalaaGreat.Walks
open Go.RowKit Plain Jn
set_option linter.unusedVariables false
/-! ### More blocks are banned, while others turn -/
section
variable {w w' : World} {r : RLoc} {q : PLoc} {n : Nat} {S N : Nat → Sec} {F : Nat → Bool} {dead fails : Bool} {left : Int} {keep : List Bool} {P P' : Pl}
theorem RowV.rebanO {X R : List Nat} {v : Value} {s : Sec} (h : RowV w r.N v s) (ho : Only R w w') (hR : ∀ b ∈ R, b ∈ r.N) (hX : ∀ x ∈ X, w.heap.size ≤ x) : RowV w' (r.banX X).N v s := by
  obtain ⟨g, o, c, e, h1, h2⟩ := h
  refine ⟨g, o, c, e, fun j v hv => ho.cell (fun hm => h2 (hR _ hm)) (h1 j v hv), fun hm => ?_⟩
  rcases RLoc.memX hm with hm | hm
  · have h3 := block_lt_of_cell (h1 0 _ (secL_get s (by omega)))
    have h4 := hX _ hm
    simp only at h3
    omega
  · exact h2 hm
theorem RefX.rebanO (h : RefX w r n S N F dead fails left keep) {R : List Nat} (ho : Only R w w') (hR : ∀ b ∈ R, b ∈ r.ban ∧ b ∉ r.R) {X : List Nat} (hX : ∀ x ∈ X, w.heap.size ≤ x ∧ x < w'.heap.size) : RefX w' (r.banX X) n S N F dead fails left keep := by
  have h' := h.other ho hR
  obtain ⟨a, c, c6, k1, k2⟩ := h.c6
  have hRp : r.p ∉ R := fun hm => (hR _ hm).2 (by simp [RLoc.R])
  have hRs : r.sb ∉ R := fun hm => (hR _ hm).2 (by simp [RLoc.R])
  have hRn : r.nb ∉ R := fun hm => (hR _ hm).2 (by simp [RLoc.R])
  have hRN : ∀ b ∈ R, b ∈ r.N := fun b hb => List.mem_append_right _ (hR b hb).1
  refine ⟨h'.c0, h'.c1, h'.c2, h'.c3, h'.c4, h'.c5, ⟨a, c, ho.cell hRp c6, Only.bools ho (fun h0 ad e hm => k2 h0 ad e (hRN _ hm)) k1, fun h0 ad e hm => ?_⟩, h'.fz, fun i hi => ?_, fun i hi => ?_, h'.fl, h'.ne, h'.n1, h'.n2, fun b hm => ?_⟩
  · rcases RLoc.memX hm with hm | hm
    · obtain ⟨b, off, e2, hc⟩ : ∃ b off, a = some ⟨b, off, none⟩ ∧ ∀ i (hi : i < keep.length), w.cell? ⟨b, off + i, none⟩ = some (.bool keep[i]) := by
        rcases k1.2 with h | h
        · exact absurd h h0
        · exact h
      rw [e2] at e
      cases e
      have := block_lt_of_cell (hc 0 (List.length_pos_iff.2 h0))
      have := (hX _ hm).1
      simp only at *
      omega
    · exact k2 h0 ad e hm
  · obtain ⟨_, v, h2, h3⟩ := h.st i hi
    exact ⟨(h'.st i hi).1, v, ho.cell hRs h2, h3.rebanO ho hRN (fun x hx => (hX x hx).1)⟩
  · obtain ⟨_, v, h2, h3⟩ := h.sn i hi
    exact ⟨(h'.sn i hi).1, v, ho.cell hRn h2, h3.rebanO ho hRN (fun x hx => (hX x hx).1)⟩
  · rcases List.mem_append.1 hm with hm | hm
    · exact (hX b hm).2
    · exact h'.bl b hm
theorem RefAt.rebanO (h : RefAt w r P) {R : List Nat} (ho : Only R w w') (hR : ∀ b ∈ R, b ∈ r.ban ∧ b ∉ r.R) {X : List Nat} (hX : ∀ x ∈ X, w.heap.size ≤ x ∧ x < w'.heap.size) : RefAt w' (r.banX X) P := ⟨h.x.rebanO ho hR hX, h.ok⟩
theorem PlateAt.rebanO (h : PlateAt w q P) {R : List Nat} (ho : Only R w w') (hR : ∀ b ∈ R, b ∈ q.ban ∧ b ∉ q.R) {X : List Nat} (hX : ∀ x ∈ X, w.heap.size ≤ x ∧ x < w'.heap.size) : PlateAt w' (q.banX X) P := by
  have h' : PlateAt w' q P := h.only ho (fun b hb hm => (hR b hm).2 hb) (fun a hd hB => Only.bools ho (fun h0 ad e hm => (hd h0 ad e).2 (hR _ hm).1) hB)
  obtain ⟨a, cap, k1, k2, k3⟩ := h.c5
  have kk := ho.cell (fun hm => (hR _ hm).2 q.inP) k1
  refine ⟨h'.c0, h'.c1, h'.c2, h'.c3, h'.c4, ⟨a, cap, kk, Only.bools ho (fun h0 ad e hm => (k3 h0 ad e).2 (hR _ hm).1) k2, fun h0 ad e => ⟨(k3 h0 ad e).1, fun hm => ?_⟩⟩, h'.fz, h'.st, h'.th, h'.mp, h'.ne, h'.ok, fun b hm => ?_⟩
  · rcases List.mem_append.1 hm with hm | hm
    · obtain ⟨b, off, e2, hc⟩ : ∃ b off, a = some ⟨b, off, none⟩ ∧ ∀ i (hi : i < P.keep.length), w.cell? ⟨b, off + i, none⟩ = some (.bool P.keep[i]) := by
        rcases k2.2 with h | h
        · exact absurd h h0
        · exact h
      rw [e2] at e
      cases e
      have := block_lt_of_cell (hc 0 (List.length_pos_iff.2 h0))
      have := (hX _ hm).1
      simp only at *
      omega
    · exact (k3 h0 ad e).2 hm
  · rcases List.mem_append.1 hm with hm | hm
    · exact (hX b hm).2
    · exact h'.bl b hm
theorem JP.rebanO {j : JLoc} {J : Jn} (h : JP w j q J P) {R : List Nat} (ho : Only R w w') (hR : ∀ b ∈ R, b ∈ q.ban ∧ b ∉ j.R q) {X : List Nat} (hX : ∀ x ∈ X, w.heap.size ≤ x ∧ x < w'.heap.size) : JP w' j (q.banX X) J P :=
  ⟨h.pl.rebanO ho (fun b hb => ⟨(hR b hb).1, fun hm => (hR b hb).2 (JLoc.inQ hm)⟩) hX, (h.jn.only ho (fun hm => (hR _ hm).2 JLoc.inP) (fun hm => (hR _ hm).2 JLoc.inM)).ban X, h.ok, List.mem_append_right _ h.bp, List.mem_append_right _ h.bm, h.np, h.nm⟩
theorem JP.otherB {j : JLoc} {J : Jn} (h : JP w j q J P) {R : List Nat} (ho : Only R w w') (hR : ∀ b ∈ R, b ∈ q.ban ∧ b ∉ j.R q) : JP w' j q J P :=
  ⟨h.pl.only ho (fun b hb hm => (hR b hm).2 (JLoc.inQ hb)) (fun a hd hB => Only.bools ho (fun h0 ad e hm => (hd h0 ad e).2 (hR _ hm).1) hB), h.jn.only ho (fun hm => (hR _ hm).2 JLoc.inP) (fun hm => (hR _ hm).2 JLoc.inM), h.ok, h.bp, h.bm, h.np, h.nm⟩
theorem Dat.banned {N N' : List Nat} {v : Value} {d : List Byte} (h : Dat w N v d) (hb : Below w.heap.size w w') (hN : ∀ b ∈ N', b ∈ N ∨ w.heap.size ≤ b) : Dat w' N' v d :=
  ⟨h.own.keep hb, fun g hg hm => by
    rcases hN g hm with h1 | h1
    · exact h.out g hg h1
    · have := (h.own.blk hg).2.1; omega⟩
theorem OwnQ.banned {T : TypeId} {base : Nat} {N N' : List Nat} {v : Value} {l : List (Int × List Byte)} (h : OwnQ T w base N v l) (hb : Below w.heap.size w w') (hN : ∀ b ∈ N', b ∈ N ∨ w.heap.size ≤ b) : OwnQ T w' base N' v l := by
  have hk := fun g hg => (h.blk (g := g) hg).2.1
  obtain ⟨vs, hr, hd⟩ := h.row
  exact ⟨vs, ownsRow_of hr fun g hg => hb.block g (hk g hg), fun k x hx => by
    obtain ⟨da, dc, h1, h2, h3⟩ := hd k x hx
    exact ⟨da, dc, h1, h2, h3.banned hb hN⟩⟩
theorem RJ.banned {m : Nat} {J : Jn} (h : RJ w m r J P) (hb : Below w.heap.size w w') {X : List Nat} (hX : ∀ x ∈ X, w.heap.size ≤ x ∧ x < w'.heap.size) : RJ w' m (r.banX X) J P := by
  obtain ⟨v, k1, k2, k3⟩ := h.c6
  have hN : ∀ b ∈ (r.banX X).N, b ∈ r.N ∨ w.heap.size ≤ b := fun b hb => (RLoc.memX hb).elim (fun h => .inr (hX b h).1) .inl
  refine ⟨⟨h.rf.x.reban hb hX, h.rf.ok⟩, keepc hb h.c0, keepc hb h.c1, keepc hb h.c2, keepc hb h.c3, keepc hb h.c4, keepc hb h.c5, ⟨v, keepc hb k1, k2.banned hb hN, fun g hg hm => ?_⟩, keepc hb h.c7, fun i => (hb.frozen (p := ⟨m, i, none⟩) h.lt).trans (h.fz i), h.ok, List.mem_append_right _ h.bm, h.nm⟩
  rcases hN g hm with h1 | h1
  · exact k3 g hg h1
  · have := (k2.blk hg).2.1; omega
end
/-! ### Both -/
abbrev xv (x : Nat) : Value := .pointer (some ⟨x, 0, none⟩)
/-- A block that none of both's calls turns. -/
abbrev Sp := Option (Nat × Array Value)
structure SpOk (sp : Sp) (w : World) (x : Nat) (Rq Rr : List Nat) : Prop where
  d : ∀ g D, sp = some (g, D) → (∀ i v, D[i]? = some v → w.cell? ⟨g, i, none⟩ = some v) ∧ g < w.heap.size ∧ g ∉ Rq ∧ g ∉ Rr ∧ g ≠ x
theorem SpOk.only {sp : Sp} {w w' : World} {x : Nat} {Rq Rr R : List Nat} (h : SpOk sp w x Rq Rr) (ho : Only R w w') (hR : ∀ g D, sp = some (g, D) → g ∉ R) : SpOk sp w' x Rq Rr :=
  ⟨fun g D e => by
    obtain ⟨h1, h2, h3⟩ := h.d g D e
    exact ⟨fun i v k => ho.cell (hR g D e) (h1 i v k), Nat.lt_of_lt_of_le h2 ho.size, h3⟩⟩
theorem SpOk.below {sp : Sp} {w w' : World} {x : Nat} {Rq Rr : List Nat} (h : SpOk sp w x Rq Rr) (hb : Below w.heap.size w w') : SpOk sp w' x Rq Rr := h.only (R := []) (Only.of_below hb) (fun _ _ _ => by simp)
structure BN (sp : Sp) (w0 w : World) (x : Nat) (q : PLoc) (r : RLoc) (P P' : Pl) : Prop where
  mix : Mix w0 w q r P P'
  c0 : w.cell? ⟨x, 0, none⟩ = some (pv q)
  c1 : ∃ v, w.cell? ⟨x, 1, none⟩ = some v
  c2 : w.cell? ⟨x, 2, none⟩ = some (rv r)
  c3 : ∃ v, w.cell? ⟨x, 3, none⟩ = some v
  fz : ∀ i, w.frozen? ⟨x, i, none⟩ = false
  xq : x ∈ q.ban
  xr : x ∈ r.ban
  nq : x ∉ q.R
  nr : x ∉ r.R
  xg : w0.heap.size ≤ x
  spc : SpOk sp w x q.R r.R
structure JB (sp : Sp) (w0 w : World) (x : Nat) (q : PLoc) (r : RLoc) (j : JLoc) (m : Nat) (J J' : Jn) (P P' : Pl) : Prop where
  jp : JP w j q J P
  rj : RJ w m r J' P'
  xp : x ≠ j.p
  xm : x ≠ j.m
  xn : x ≠ m
  pr : j.p ∈ r.ban
  mr : j.m ∈ r.ban
  prn : j.p ∉ r.R
  mrn : j.m ∉ r.R
  mp : m ≠ j.p
  mm : m ≠ j.m
  mq : m ∈ q.ban
  mqn : m ∉ q.R
  gp : w0.heap.size ≤ j.p
  gm : w0.heap.size ≤ j.m
  gn : w0.heap.size ≤ m
  sj : ∀ g D, sp = some (g, D) → g ≠ j.p ∧ g ≠ j.m ∧ g ≠ m
def jcell (o : Option (JLoc × Nat)) : Value := .pointer (o.map fun t => ⟨t.1.p, 0, none⟩)
def mcell (o : Option (JLoc × Nat)) : Value := .pointer (o.map fun t => ⟨t.2, 0, none⟩)
structure BT (sp : Sp) (w0 w : World) (x : Nat) (q : PLoc) (r : RLoc) (o : Option (JLoc × Nat)) (J J' : Jn) (P P' : Pl) : Prop where
  bn : BN sp w0 w x q r P P'
  c1 : w.cell? ⟨x, 1, none⟩ = some (jcell o)
  c3 : w.cell? ⟨x, 3, none⟩ = some (mcell o)
  jn : ∀ j m, o = some (j, m) → JB sp w0 w x q r j m J J' P P'
section
variable {sp : Sp} {w0 w w' : World} {x m : Nat} {q : PLoc} {r : RLoc} {j : JLoc} {o : Option (JLoc × Nat)} {J J' J2 : Jn} {P P' P2 : Pl}
theorem BN.lt (h : BN sp w0 w x q r P P') : x < w.heap.size := block_lt_of_cell h.c0
theorem BN.ge (h : BN sp w0 w x q r P P') : w0.heap.size ≤ w.heap.size := h.mix.be.size
theorem fz_same {a b : World} {x : Nat} (h : ∀ i, a.frozen? ⟨x, i, none⟩ = false) (e : b.heap[x]? = a.heap[x]?) : ∀ i, b.frozen? ⟨x, i, none⟩ = false := fun i => by
  have := h i
  unfold World.frozen? at this ⊢
  simp only [e]
  exact this
theorem BN.below (h : BN sp w0 w x q r P P') (hb : Below w.heap.size w w') : BN sp w0 w' x q r P P' :=
  ⟨h.mix.below hb, keepc hb h.c0, h.c1.imp fun _ k => keepc hb k, keepc hb h.c2, h.c3.imp fun _ k => keepc hb k, fz_same h.fz (hb.block _ h.lt), h.xq, h.xr, h.nq, h.nr, h.xg, h.spc.below hb⟩
theorem JB.below (h : JB sp w0 w x q r j m J J' P P') (hb : Below w.heap.size w w') : JB sp w0 w' x q r j m J J' P P' := { h with jp := h.jp.below hb, rj := h.rj.below hb }
theorem BT.below (h : BT sp w0 w x q r o J J' P P') (hb : Below w.heap.size w w') : BT sp w0 w' x q r o J J' P P' :=
  ⟨h.bn.below hb, keepc hb h.c1, keepc hb h.c3, fun j m e => (h.jn j m e).below hb⟩
theorem BT.drewN (h : BT sp w0 w x q r o J J' P P') (k : Nat) : BT sp w0 (w.drewN k) x q r o J J' P P' := h.below (below_drewN (Below.refl _ _) k)
theorem BN.banned (h : BN sp w0 w x q r P P') (hb : Below w.heap.size w w') {X : List Nat} (hX : ∀ x ∈ X, w.heap.size ≤ x ∧ x < w'.heap.size) : BN sp w0 w' x (q.banX X) (r.banX X) P P' :=
  ⟨h.mix.reban hb hX, keepc hb h.c0, h.c1.imp fun _ k => keepc hb k, keepc hb h.c2, h.c3.imp fun _ k => keepc hb k, fz_same h.fz (hb.block _ h.lt), List.mem_append_right _ h.xq, List.mem_append_right _ h.xr, h.nq, h.nr, h.xg, h.spc.below hb⟩
theorem BT.banned (h : BT sp w0 w x q r o J J' P P') (hb : Below w.heap.size w w') {X : List Nat} (hX : ∀ x ∈ X, w.heap.size ≤ x ∧ x < w'.heap.size) : BT sp w0 w' x (q.banX X) (r.banX X) o J J' P P' :=
  ⟨h.bn.banned hb hX, keepc hb h.c1, keepc hb h.c3, fun j m e => by
    have k := h.jn j m e
    exact ⟨k.jp.banned hb hX, k.rj.banned hb hX, k.xp, k.xm, k.xn, List.mem_append_right _ k.pr, List.mem_append_right _ k.mr, k.prn, k.mrn, k.mp, k.mm, List.mem_append_right _ k.mq, k.mqn, k.gp, k.gm, k.gn, k.sj⟩⟩
/-- Blocks that are banned are written over. -/
theorem BT.poke (h : BT sp w0 w x q r o J J' P P') {R : List Nat} (ho : Only R w w') (hq : ∀ g ∈ R, g ∈ q.ban ∧ g ∈ r.ban ∧ g ∉ q.R ∧ g ∉ r.R ∧ g ≠ x ∧ w0.heap.size ≤ g) (hs : ∀ g ∈ R, ∀ g' D, sp = some (g', D) → g ≠ g') (hj : ∀ g ∈ R, ∀ j m, o = some (j, m) → g ≠ j.p ∧ g ≠ j.m ∧ g ≠ m) : BT sp w0 w' x q r o J J' P P' := by
  have hx : x ∉ R := fun hm => (hq x hm).2.2.2.2.1 rfl
  have hm := h.bn.mix
  refine ⟨⟨⟨?_, ?_, Only.below hm.be ho (fun g hg => (hq g hg).2.2.2.2.2) (Nat.le_refl _), hm.ge, hm.ge', hm.bq, hm.br, hm.dis⟩, ho.cell hx h.bn.c0, h.bn.c1.imp fun _ k => ho.cell hx k, ho.cell hx h.bn.c2, h.bn.c3.imp fun _ k => ho.cell hx k, fz_same h.bn.fz (ho.block _ h.bn.lt hx), h.bn.xq, h.bn.xr, h.bn.nq, h.bn.nr, h.bn.xg, h.bn.spc.only ho (fun g D e hm => hs g hm g D e rfl)⟩, ho.cell hx h.c1, ho.cell hx h.c3, fun j m e => ?_⟩
  · exact hm.pl.only ho (fun b hb hn => (hq b hn).2.2.1 hb) (fun a hd hB => Only.bools ho (fun h0 ad e hn => (hd h0 ad e).2 (hq _ hn).1) hB)
  · exact ⟨hm.rf.x.other ho (fun b hb => ⟨(hq b hb).2.1, (hq b hb).2.2.2.1⟩), hm.rf.ok⟩
  · have k := h.jn j m e
    exact { k with jp := k.jp.otherB ho (fun b hb => ⟨(hq b hb).1, fun hn => by
                    simp only [JLoc.R, List.mem_cons] at hn
                    rcases hn with hn | hn | hn
                    · exact (hj b hb j m e).1 hn
                    · exact (hj b hb j m e).2.1 hn
                    · exact (hq b hb).2.2.1 hn⟩)
                   rj := k.rj.other ho (fun b hb => ⟨(hq b hb).2.1, (hq b hb).2.2.2.1, (hj b hb j m e).2.2⟩) }
/-- The program's plate turns. -/
theorem BN.first (h : BN sp w0 w x q r P P') (hp : PlateAt w' q P2) (ho : Only q.R w w') : BN sp w0 w' x q r P2 P' :=
  ⟨h.mix.first hp ho, ho.cell h.nq h.c0, h.c1.imp fun _ k => ho.cell h.nq k, ho.cell h.nq h.c2, h.c3.imp fun _ k => ho.cell h.nq k, fz_same h.fz (ho.block _ h.lt h.nq), h.xq, h.xr, h.nq, h.nr, h.xg, h.spc.only ho (fun g D e => (h.spc.d g D e).2.2.1)⟩
theorem BN.second (h : BN sp w0 w x q r P P') (hp : RefAt w' r P2) (ho : Only r.R w w') : BN sp w0 w' x q r P P2 :=
  ⟨h.mix.second hp ho, ho.cell h.nr h.c0, h.c1.imp fun _ k => ho.cell h.nr k, ho.cell h.nr h.c2, h.c3.imp fun _ k => ho.cell h.nr k, fz_same h.fz (ho.block _ h.lt h.nr), h.xq, h.xr, h.nq, h.nr, h.xg, h.spc.only ho (fun g D e => (h.spc.d g D e).2.2.2.1)⟩
theorem BT.first (h : BT sp w0 w x q r o J J' P P') (hp : PlateAt w' q P2) (ho : Only q.R w w') (hn : P2.n = P.n) : BT sp w0 w' x q r o J J' P2 P' :=
  ⟨h.bn.first hp ho, ho.cell h.bn.nq h.c1, ho.cell h.bn.nq h.c3, fun j m e => by
    have k := h.jn j m e
    exact { k with jp := k.jp.plate hp ho hn, rj := k.rj.other ho (fun b hb => ⟨h.bn.mix.br b hb, h.bn.mix.dis b hb, fun e => k.mqn (e ▸ hb)⟩) }⟩
theorem BT.second (h : BT sp w0 w x q r o J J' P P') (hp : RefAt w' r P2) (ho : Only r.R w w') (hn : P2.n = P'.n) : BT sp w0 w' x q r o J J' P P2 :=
  ⟨h.bn.second hp ho, ho.cell h.bn.nr h.c1, ho.cell h.bn.nr h.c3, fun j m e => by
    have k := h.jn j m e
    exact { k with rj := k.rj.plate hp ho hn, jp := k.jp.otherB ho (fun b hb => ⟨h.bn.mix.bq b hb, fun hm => by
      simp only [JLoc.R, List.mem_cons] at hm
      rcases hm with e | e | e
      · exact k.prn (e ▸ hb)
      · exact k.mrn (e ▸ hb)
      · exact h.bn.mix.dis b e hb⟩) }⟩
/-- The program's journal turns, and its plate. -/
theorem BT.prog (h : BT sp w0 w x q r (some (j, m)) J J' P P') (hp : JP w' j q J2 P2) (ho : Only (j.R q) w w') : BT sp w0 w' x q r (some (j, m)) J2 J' P2 P' := by
  have k := h.jn j m rfl
  have hm := h.bn.mix
  have hx : x ∉ j.R q := fun hm => by
    simp only [JLoc.R, List.mem_cons] at hm
    rcases hm with e | e | e
    · exact k.xp e
    · exact k.xm e
    · exact h.bn.nq e
  have hR : ∀ b ∈ j.R q, b ∈ r.ban ∧ b ∉ r.R ∧ b ≠ m := fun b hb => by
    simp only [JLoc.R, List.mem_cons] at hb
    rcases hb with rfl | rfl | hb
    · exact ⟨k.pr, k.prn, fun e => k.mp e.symm⟩
    · exact ⟨k.mr, k.mrn, fun e => k.mm e.symm⟩
    · exact ⟨hm.br b hb, hm.dis b hb, fun e => k.mqn (e ▸ hb)⟩
  have hg : ∀ b ∈ j.R q, w0.heap.size ≤ b := fun b hb => by
    simp only [JLoc.R, List.mem_cons] at hb
    rcases hb with rfl | rfl | hb
    · exact k.gp
    · exact k.gm
    · exact hm.ge b hb
  have hrf : RefAt w' r P' := ⟨hm.rf.x.other ho (fun b hb => ⟨(hR b hb).1, (hR b hb).2.1⟩), hm.rf.ok⟩
  refine ⟨⟨⟨hp.pl, hrf, Only.below hm.be ho hg (Nat.le_refl _), hm.ge, hm.ge', hm.bq, hm.br, hm.dis⟩, ho.cell hx h.bn.c0, h.bn.c1.imp fun _ k => ho.cell hx k, ho.cell hx h.bn.c2, h.bn.c3.imp fun _ k => ho.cell hx k, fz_same h.bn.fz (ho.block _ h.bn.lt hx), h.bn.xq, h.bn.xr, h.bn.nq, h.bn.nr, h.bn.xg, h.bn.spc.only ho (fun g D e hn => by
    obtain ⟨_, _, s1, s2, _⟩ := h.bn.spc.d g D e
    obtain ⟨s3, s4, s5⟩ := k.sj g D e
    simp only [JLoc.R, List.mem_cons] at hn
    rcases hn with e | e | e
    · exact s3 e
    · exact s4 e
    · exact s1 e)⟩, ho.cell hx h.c1, ho.cell hx h.c3, fun j2 m2 e => ?_⟩
  cases e
  exact { k with jp := hp, rj := k.rj.other ho hR }
/-- The document's. -/
theorem BT.docu (h : BT sp w0 w x q r (some (j, m)) J J' P P') (hp : RJ w' m r J2 P2) (ho : Only (m :: r.R) w w') : BT sp w0 w' x q r (some (j, m)) J J2 P P2 := by
  have k := h.jn j m rfl
  have hm := h.bn.mix
  have hx : x ∉ m :: r.R := fun hm => by
    rcases List.mem_cons.1 hm with e | e
    · exact k.xn e
    · exact h.bn.nr e
  have hR : ∀ b ∈ m :: r.R, b ∈ q.ban ∧ b ∉ j.R q := fun b hb => by
    rcases List.mem_cons.1 hb with rfl | hb
    · exact ⟨k.mq, fun hn => by
        simp only [JLoc.R, List.mem_cons] at hn
        rcases hn with e | e | e
        · exact k.mp e
        · exact k.mm e
        · exact k.mqn e⟩
    · exact ⟨hm.bq b hb, fun hn => by
        simp only [JLoc.R, List.mem_cons] at hn
        rcases hn with e | e | e
        · exact k.prn (e ▸ hb)
        · exact k.mrn (e ▸ hb)
        · exact hm.dis b e hb⟩
  have hg : ∀ b ∈ m :: r.R, w0.heap.size ≤ b := fun b hb => by
    rcases List.mem_cons.1 hb with rfl | hb
    · exact k.gn
    · exact hm.ge' b hb
  have hjp := k.jp.otherB ho hR
  refine ⟨⟨⟨hm.pl.only ho (fun b hb hn => (hR b hn).2 (JLoc.inQ hb)) (fun a hd hB => Only.bools ho (fun h0 ad e hn => (hd h0 ad e).2 (hR _ hn).1) hB), hp.rf, Only.below hm.be ho hg (Nat.le_refl _), hm.ge, hm.ge', hm.bq, hm.br, hm.dis⟩, ho.cell hx h.bn.c0, h.bn.c1.imp fun _ k => ho.cell hx k, ho.cell hx h.bn.c2, h.bn.c3.imp fun _ k => ho.cell hx k, fz_same h.bn.fz (ho.block _ h.bn.lt hx), h.bn.xq, h.bn.xr, h.bn.nq, h.bn.nr, h.bn.xg, h.bn.spc.only ho (fun g D e hn => by
    obtain ⟨_, _, s1, s2, _⟩ := h.bn.spc.d g D e
    obtain ⟨s3, s4, s5⟩ := k.sj g D e
    rcases List.mem_cons.1 hn with e | e
    · exact s5 e
    · exact s2 e)⟩, ho.cell hx h.c1, ho.cell hx h.c3, fun j2 m2 e => ?_⟩
  cases e
  exact { k with jp := hjp, rj := hp }
/-- A journal is made, the program's. -/
structure BP (sp : Sp) (w0 w : World) (x : Nat) (q : PLoc) (r : RLoc) (j : JLoc) (J : Jn) (P P' : Pl) : Prop where
  bn : BN sp w0 w x q r P P'
  jp : JP w j q J P
  xp : x ≠ j.p
  xm : x ≠ j.m
  pr : j.p ∈ r.ban
  mr : j.m ∈ r.ban
  prn : j.p ∉ r.R
  mrn : j.m ∉ r.R
  gp : w0.heap.size ≤ j.p
  gm : w0.heap.size ≤ j.m
  sj : ∀ g D, sp = some (g, D) → g ≠ j.p ∧ g ≠ j.m
theorem BP.below (h : BP sp w0 w x q r j J P P') (hb : Below w.heap.size w w') : BP sp w0 w' x q r j J P P' := { h with bn := h.bn.below hb, jp := h.jp.below hb }
theorem BN.made (h : BN sp w0 w x q r P P') (hp : JP w' j (q.banX [j.p, j.m]) J P2) (g1 : w.heap.size ≤ j.p) (g2 : w.heap.size ≤ j.m) (ho : Only q.R w w') : BP sp w0 w' x (q.banX [j.p, j.m]) (r.banX [j.p, j.m]) j J P2 P' := by
  have hm := h.mix
  have hxl := h.lt
  have hX : ∀ x ∈ [j.p, j.m], w.heap.size ≤ x ∧ x < w'.heap.size := fun y hy => by
    simp only [List.mem_cons, List.not_mem_nil, or_false] at hy
    rcases hy with rfl | rfl
    · exact ⟨g1, hp.jn.ltP⟩
    · exact ⟨g2, hp.jn.mp.lt⟩
  have hrf : RefAt w' (r.banX [j.p, j.m]) P' := hm.rf.rebanO ho (fun b hb => ⟨hm.br b hb, hm.dis b hb⟩) hX
  have hrl : ∀ b ∈ r.R, b < w.heap.size := hm.rf.x.lt
  exact ⟨⟨⟨hp.pl, hrf, Only.below hm.be ho hm.ge (Nat.le_refl _), hm.ge, hm.ge', fun b hb => List.mem_append_right _ (hm.bq b hb), fun b hb => List.mem_append_right _ (hm.br b hb), hm.dis⟩, ho.cell h.nq h.c0, h.c1.imp fun _ k => ho.cell h.nq k, ho.cell h.nq h.c2, h.c3.imp fun _ k => ho.cell h.nq k, fz_same h.fz (ho.block _ h.lt h.nq), List.mem_append_right _ h.xq, List.mem_append_right _ h.xr, h.nq, h.nr, h.xg, h.spc.only ho (fun g D e => (h.spc.d g D e).2.2.1)⟩,
    hp, (fun e => by omega), (fun e => by omega), List.mem_append_left _ (by simp), List.mem_append_left _ (by simp), (fun hn => by have := hrl _ hn; omega), (fun hn => by have := hrl _ hn; omega), Nat.le_trans hm.be.size g1, Nat.le_trans hm.be.size g2, fun g D e => by have := (h.spc.d g D e).2.1; exact ⟨by omega, by omega⟩⟩
/-- .. and the document's. -/
theorem BP.made (h : BP sp w0 w x q r j J P P') (hp : RJ w' m (r.banX [m]) J2 P2) (g1 : w.heap.size ≤ m) (ho : Only r.R w w') : BN sp w0 w' x (q.banX [m]) (r.banX [m]) P P2 ∧ JB sp w0 w' x (q.banX [m]) (r.banX [m]) j m J J2 P P2 := by
  have hm := h.bn.mix
  have hxl := h.bn.lt
  have hX : ∀ x ∈ [m], w.heap.size ≤ x ∧ x < w'.heap.size := fun y hy => by
    simp only [List.mem_cons, List.not_mem_nil, or_false] at hy
    subst hy
    exact ⟨g1, hp.lt⟩
  have hR : ∀ b ∈ r.R, b ∈ q.ban ∧ b ∉ j.R q := fun b hb => ⟨hm.bq b hb, fun hn => by
    simp only [JLoc.R, List.mem_cons] at hn
    rcases hn with e | e | e
    · exact h.prn (e ▸ hb)
    · exact h.mrn (e ▸ hb)
    · exact hm.dis b e hb⟩
  have hjp := h.jp.rebanO ho hR hX
  have hlj := h.jp.lt
  have l1 := hlj j.p JLoc.inP
  have l2 := hlj j.m JLoc.inM
  have hql : ∀ b ∈ q.R, b < w.heap.size := hm.pl.lt
  exact ⟨⟨⟨hjp.pl, hp.rf, Only.below hm.be ho hm.ge' (Nat.le_refl _), hm.ge, hm.ge', fun b hb => List.mem_append_right _ (hm.bq b hb), fun b hb => List.mem_append_right _ (hm.br b hb), hm.dis⟩, ho.cell h.bn.nr h.bn.c0, h.bn.c1.imp fun _ k => ho.cell h.bn.nr k, ho.cell h.bn.nr h.bn.c2, h.bn.c3.imp fun _ k => ho.cell h.bn.nr k, fz_same h.bn.fz (ho.block _ h.bn.lt h.bn.nr), List.mem_append_right _ h.bn.xq, List.mem_append_right _ h.bn.xr, h.bn.nq, h.bn.nr, h.bn.xg, h.bn.spc.only ho (fun g D e => (h.bn.spc.d g D e).2.2.2.1)⟩,
    ⟨hjp, hp, h.xp, h.xm, (fun e => by omega), List.mem_append_right _ h.pr, List.mem_append_right _ h.mr, h.prn, h.mrn, (fun e => by omega), (fun e => by omega), List.mem_append_left _ (by simp), (fun hn => by have := hql _ hn; omega), h.gp, h.gm, Nat.le_trans hm.be.size g1, fun g D e => by have := (h.bn.spc.d g D e).2.1; exact ⟨(h.sj g D e).1, (h.sj g D e).2, by omega⟩⟩⟩
/-- What opening answered is laid into both. -/
theorem BN.took (h : BN sp w0 w x q r P P') {v1 v3 : Value} (o : Option (JLoc × Nat)) (e1 : v1 = jcell o) (e3 : v3 = mcell o) (hj : ∀ j m, o = some (j, m) → JB sp w0 w x q r j m J J' P P') :
    BT sp w0 ((w.setCell ⟨x, 1, none⟩ v1).setCell ⟨x, 3, none⟩ v3) x q r o J J' P P' := by
  subst e1 e3
  have ho : Only [x] w ((w.setCell ⟨x, 1, none⟩ (jcell o)).setCell ⟨x, 3, none⟩ (mcell o)) := ((Only.refl _ _).setCell (by simp) _).setCell (by simp) _
  obtain ⟨v1, k1⟩ := h.c1
  obtain ⟨v3, k3⟩ := h.c3
  have hm := h.mix
  have hx : ∀ b ∈ [x], b = x := fun b hb => by simpa using hb
  have hne : ∀ a b : Nat, a ≠ b → (⟨x, a, none⟩ : Addr) ≠ ⟨x, b, none⟩ := fun a b hab e => hab (by injection e)
  have hpl : PlateAt _ q P := hm.pl.only ho (fun b hb hn => h.nq (hx b hn ▸ hb)) (fun a hd hB => Only.bools ho (fun h0 ad e hn => (hd h0 ad e).2 (by rw [hx _ hn]; exact h.xq)) hB)
  have hrf : RefAt _ r P' := ⟨hm.rf.x.other ho (fun b hb => by rw [hx b hb]; exact ⟨h.xr, h.nr⟩), hm.rf.ok⟩
  have d1 : ((w.setCell ⟨x, 1, none⟩ (jcell o)).setCell ⟨x, 3, none⟩ (mcell o)).cell? ⟨x, 1, none⟩ = some (jcell o) := by
    rw [World.cell?_setCell_other _ _ _ _ (hne _ _ (by omega))]
    exact World.cell?_setCell_same _ _ _ k1
  have d3 : ((w.setCell ⟨x, 1, none⟩ (jcell o)).setCell ⟨x, 3, none⟩ (mcell o)).cell? ⟨x, 3, none⟩ = some (mcell o) := by
    have k3' : (w.setCell ⟨x, 1, none⟩ (jcell o)).cell? ⟨x, 3, none⟩ = some v3 := by
      rw [World.cell?_setCell_other _ _ _ _ (hne _ _ (by omega))]
      exact k3
    exact World.cell?_setCell_same _ _ _ k3'
  refine ⟨⟨⟨hpl, hrf, Only.below hm.be ho (fun b hb => by rw [hx b hb]; exact h.xg) (Nat.le_refl _), hm.ge, hm.ge', hm.bq, hm.br, hm.dis⟩, ?_, ⟨_, d1⟩, ?_, ⟨_, d3⟩, fun i => by rw [World.frozen?_setCell, World.frozen?_setCell]; exact h.fz i, h.xq, h.xr, h.nq, h.nr, h.xg, h.spc.only ho (fun g D e hn => (h.spc.d g D e).2.2.2.2 (hx g hn))⟩, d1, d3, fun j m e => ?_⟩
  · rw [World.cell?_setCell_other _ _ _ _ (hne _ _ (by omega)), World.cell?_setCell_other _ _ _ _ (hne _ _ (by omega))]
    exact h.c0
  · rw [World.cell?_setCell_other _ _ _ _ (hne _ _ (by omega)), World.cell?_setCell_other _ _ _ _ (hne _ _ (by omega))]
    exact h.c2
  · have k := hj j m e
    exact { k with jp := k.jp.otherB ho (fun b hb => by
                      rw [hx b hb]
                      refine ⟨h.xq, fun hn => ?_⟩
                      simp only [JLoc.R, List.mem_cons] at hn
                      rcases hn with e | e | e
                      · exact k.xp e
                      · exact k.xm e
                      · exact h.nq e)
                   rj := k.rj.other ho (fun b hb => by rw [hx b hb]; exact ⟨h.xr, h.nr, k.xn⟩) }
end
end Go.Proofs.YtdhidcoglioalaaGreat.Walks
