/-
  A client in memory whose maps' places are not told; what stays where it alone has turned; its calls so.
-/
import Derived.Test.YtldcpnabgpjgiaaDiskX
import Derived.Test.YtldcpnabgpjgiaaDiskW
namespace Go.Proofs.Ytldcpnabgpjgiaa.Walks
open Go.RowKit Plain
set_option linter.unusedVariables false

/-- All cells but a client's are as they were. -/
def Stays (w w' : World) : Prop := ∀ (b : Nat) (cs : Array Value) (t : TypeId) (fz : Nat × Nat), w.heap[b]? = some (.cells cs t fz) → t ≠ 113 → w'.heap[b]? = some (.cells cs t fz)
theorem Stays.refl (w : World) : Stays w w := fun _ _ _ _ h _ => h
theorem Stays.of_below {w w' : World} (h : Below w.heap.size w w') : Stays w w' := fun b cs t fz hc _ => (h.block b (lt_of_heap hc)).trans hc
theorem Stays.trans {a b c : World} (h : Stays a b) (k : Stays b c) : Stays a c := fun g cs t fz hc ht => k g cs t fz (h g cs t fz hc ht) ht
theorem Stays.keeps {w w' : World} (h : Stays w w') : Keeps w w' := fun b cs t fz hc ht => h b cs t fz hc (by rcases ht with rfl | rfl | rfl <;> decide)
theorem Stays.blk {w w' : World} (h : Stays w w') {g : Nat} {l : List Value} {t : TypeId} (hI : Blk w g l t) (ht : t ≠ 113) : Blk w' g l t := h g _ _ _ hI ht
theorem Stays.of_only3 {w w' : World} {p r1 r2 N : Nat} {c : Cl} (ho : Only [p, r1, r2] w w') (h : CliAt w p r1 r2 N c) (hw : c.way ≠ 0) : Stays w w' := fun b cs t fz hc ht =>
  (ho.block b (lt_of_heap hc) (by
    obtain ⟨F, h1, _⟩ := h.mapM
    obtain ⟨G, h2, _⟩ := (h.mapA hw).1
    obtain ⟨da, dc, la, lc, cf, cs', said, am, hP, _⟩ := h
    simp only [List.mem_cons, List.not_mem_nil, or_false, not_or]
    refine ⟨?_, ?_, ?_⟩
    · rintro rfl
      have hP' : w.heap[b]? = some (.cells (cliL c da dc r1 la lc cf cs' said am).toArray 113 (0, 0)) := hP
      rw [hP'] at hc
      cases hc
      exact ht rfl
    · rintro rfl; exact h1.cells_ne _ _ _ hc
    · rintro rfl; exact h2.cells_ne _ _ _ hc)).trans hc
theorem Stays.of_only1 {w w' : World} {p r1 r2 N : Nat} {c : Cl} (ho : Only [p] w w') (h : CliAt w p r1 r2 N c) : Stays w w' := fun b cs t fz hc ht =>
  (ho.block b (lt_of_heap hc) (by
    obtain ⟨da, dc, la, lc, cf, cs', said, am, hP, _⟩ := h
    simp only [List.mem_singleton]
    rintro rfl
    have hP' : w.heap[b]? = some (.cells (cliL c da dc r1 la lc cf cs' said am).toArray 113 (0, 0)) := hP
    rw [hP'] at hc
    cases hc
    exact ht rfl)).trans hc
/-- A step of the law's: what lay below B is as it was, of the rest all but the client. -/
structure Stp (B : Nat) (w w' : World) : Prop where
  low : Below B w w'
  stays : Stays w w'
theorem Stp.refl (B : Nat) (w : World) : Stp B w w := ⟨Below.refl _ _, Stays.refl w⟩
theorem Stp.of_below {B : Nat} {w w' : World} (h : Below w.heap.size w w') (hB : B ≤ w.heap.size) : Stp B w w' := ⟨h.mono hB, Stays.of_below h⟩
theorem Stp.trans {B : Nat} {a b c : World} (h : Stp B a b) (k : Stp B b c) : Stp B a c := ⟨h.low.trans k.low, h.stays.trans k.stays⟩
theorem Stp.size {B : Nat} {a b : World} (h : Stp B a b) : a.heap.size ≤ b.heap.size := h.low.size
theorem Stp.then {B : Nat} {a b c : World} (h : Stp B a b) (k : Below b.heap.size b c) (hB : B ≤ a.heap.size) : Stp B a c := h.trans (Stp.of_below k (Nat.le_trans hB h.size))
theorem Stp.drw {B : Nat} {a b : World} (h : Stp B a b) (hB : B ≤ a.heap.size) : Stp B a b.drew := h.then (Below.refl _ _).drew hB
theorem Stp.blk {B : Nat} {w w' : World} (h : Stp B w w') {g : Nat} {l : List Value} {t : TypeId} (hI : Blk w g l t) (ht : t ≠ 113) : Blk w' g l t := h.stays.blk hI ht
theorem Stp.outv {B : Nat} {w w' : World} (h : Stp B w w') {l : List Value} {o : Ou} (hI : OutV w l o) : OutV w' l o := hI.keeps h.stays.keeps
/-- A client, above B. -/
def Sys (B : Nat) (w : World) (p N : Nat) (c : Cl) : Prop := ∃ r1 r2, CliAt w p r1 r2 N c ∧ B ≤ p ∧ B ≤ r1 ∧ B ≤ r2
theorem Sys.below {B : Nat} {w w' : World} {p N : Nat} {c : Cl} (h : Sys B w p N c) (hb : Below w.heap.size w w') : Sys B w' p N c := by
  obtain ⟨r1, r2, h1, h2⟩ := h; exact ⟨r1, r2, h1.below hb, h2⟩
theorem Sys.mono {B : Nat} {w : World} {p N N' : Nat} {c : Cl} (h : Sys B w p N c) (hn : N ≤ N') : Sys B w p N' c := by
  obtain ⟨r1, r2, h1, h2⟩ := h; exact ⟨r1, r2, h1.mono hn, h2⟩
theorem Sys.drw {B : Nat} {w : World} {p N : Nat} {c : Cl} (h : Sys B w p N c) : Sys B w.drew p N c := h.below (Below.refl _ _).drew
theorem Sys.new {B : Nat} {w : World} {p N : Nat} {c : Cl} (h : Sys B w p N c) (o : Obj) : Sys B (w.alloc o) p N c := h.below (Below.new _ _)
theorem Sys.low {B : Nat} {w : World} {p N : Nat} {c : Cl} (h : Sys B w p N c) : B ≤ w.heap.size := by
  obtain ⟨r1, r2, h1, h2, _⟩ := h; exact Nat.le_trans h2 (Nat.le_of_lt h1.lt.1)
/-- A call's end, so. -/
def GiveS (B p N : Nat) (c : Cl) (o : Ou) (err : Int) (w : World) (e : Ending) (w' : World) : Prop :=
  ∃ l, e = .returned (.tuple #[.agg l.toArray, .int .i64 err]) ∧ Sys B w' p N c ∧ OutV w' l o ∧ Stp B w w'
theorem GiveS.of3 {B p r1 r2 N N' : Nat} {c c' : Cl} {o : Ou} {err : Int} {w : World} {e : Ending} {w' : World} (h : CliAt w p r1 r2 N c) (hw : c.way ≠ 0) (hB : B ≤ p ∧ B ≤ r1 ∧ B ≤ r2) (hg : GiveP [p, r1, r2] p r1 r2 N' c' o err w e w') : GiveS B p N' c' o err w e w' := by
  obtain ⟨l, r2', e1, e2, e3, e4, e5⟩ := hg
  have hs := h.lt.1
  refine ⟨l, e1, ⟨r1, r2', e3, hB.1, hB.2.1, ?_⟩, e4, ⟨Only.below (Below.refl _ _) e5 (by simp; omega) (by omega), Stays.of_only3 e5 h hw⟩⟩
  rcases e2 with rfl | e2
  · exact hB.2.2
  · omega
theorem GiveS.of1 {B p r1 r2 N N' : Nat} {c c' : Cl} {o : Ou} {err : Int} {w : World} {e : Ending} {w' : World} (h : CliAt w p r1 r2 N c) (hB : B ≤ p ∧ B ≤ r1 ∧ B ≤ r2) (hg : GiveP [p] p r1 r2 N' c' o err w e w') : GiveS B p N' c' o err w e w' := by
  obtain ⟨l, r2', e1, e2, e3, e4, e5⟩ := hg
  have hs := h.lt.1
  refine ⟨l, e1, ⟨r1, r2', e3, hB.1, hB.2.1, ?_⟩, e4, ⟨Only.below (Below.refl _ _) e5 (by simp; omega) (by omega), Stays.of_only1 e5 h⟩⟩
  rcases e2 with rfl | e2
  · exact hB.2.2
  · omega
/-- What a client must be for a take. -/
structure Fits (c : Cl) : Prop where
  crew : goodC 1 c.crew = true
  stamp : 0 ≤ c.stamp ∧ c.stamp ≤ 1000000
  chunk : Wf (chunkC c)
  block : Wf c.call.block
  keys : ∀ k a, c.ans k = some a → k ∈ c.crew
  maps : ∀ m, c.maps (chunkC c) = some m → goodC 1 m.1 = true
  way : c.way = 2 → c.call.kind ≠ 4 → (c.maps (chunkC c)).isSome = true
theorem take_sys (B p N : Nat) (c : Cl) (n : No) (da : Option Addr) (dc : Nat) (na : Option Addr) (nc : Nat) (w : World) (h : Sys B w p N c) (hf : Fits c) (hh : heardB c n = true) (hN1 : N + 1 < 1000000)
    (hD : BL w da n.ans.data) (hDn : da = none → dc = 0) (hN : IL w na n.ans.nodes) (hNn : na = none → nc = 0) :
    Calls Try.prog 52 #[.pointer (some ⟨p, 0, none⟩), .agg (noteOf n da dc na nc).toArray] w (GiveS B p (N + 2) (takeC c n) (takeO c n) 0 w) := by
  obtain ⟨r1, r2, h1, h2⟩ := h
  have hw : c.way ≠ 0 := by
    intro h0
    simp [heardB, h0] at hh
  exact Calls.mono (take_is p r1 r2 N c n da dc na nc w h1 hh hf.crew hf.stamp hf.chunk hf.block hN1 hf.keys hf.maps hf.way hD hDn hN hNn) fun e w' hg => GiveS.of3 h1 hw h2 hg
theorem fire_sys (B p N : Nat) (c : Cl) (w : World) (h : Sys B w p N c) (hs : 0 ≤ c.stamp ∧ c.stamp ≤ 1000000) (hk : Wf (chunkC c)) (hw : c.way ≠ 0 → goodC 1 c.crew = true) (hm : c.way = 2 → c.call.kind ≠ 4 → (c.maps (chunkC c)).isSome = true) (hg : ∀ m, c.maps (chunkC c) = some m → goodC 1 m.1 = true) :
    Calls Try.prog 61 #[.pointer (some ⟨p, 0, none⟩)] w (GiveS B p N (fireC c) (fireO c) 0 w) := by
  obtain ⟨r1, r2, h1, h2⟩ := h
  exact Calls.mono (fire_is p r1 r2 N c w h1 hs hk hw hm hg) fun e w' hg => GiveS.of1 h1 h2 hg
/-- What comes of something lies in a fresh block, and the client is behind a call. -/
def TookS (B : Nat) (w0 wx : World) (p N : Nat) (c : Cl) (o : Ou) (v8 v9 : Value) : Prop := ∃ x l, v8 = .pointer (some ⟨x, 0, none⟩) ∧ v9 = .int .i64 0 ∧ Blk wx x l 90 ∧ OutV wx l o ∧ Sys B wx p N c ∧ Stp B w0 wx
theorem tookS_of {B : Nat} {w0 we wf : World} {p N : Nat} {c : Cl} {o : Ou} {l : List Value} (hT : Stp B w0 we) (hB : B ≤ w0.heap.size) (q1 : Sys B wf p N c) (q2 : OutV wf l o) (q3 : Stp B we wf) :
    TookS B w0 ((wf.alloc (.cells out0.toArray 90)).setCells wf.heap.size 0 l) p N c o (.pointer (some ⟨wf.heap.size, 0, none⟩)) (.int .i64 0) := by
  obtain ⟨_, _, m3, m4, m5⟩ := put_out q2
  exact ⟨_, l, rfl, rfl, m4, m5, q1.below m3, (hT.trans q3).then m3 hB⟩
theorem Sys.set {B : Nat} {w : World} {p N x : Nat} {c : Cl} (h : Sys B w p N c) {l0 l : List Value} {o : Ou} (hX : Blk w x l0 90) (hV0 : OutV w l0 o) (o' : Nat) : Sys B (w.setCells x o' l) p N c := by
  obtain ⟨r1, r2, h1, h2⟩ := h
  exact ⟨r1, r2, h1.onlyG ⟨_, hX, hV0⟩ (Only.setCells (.inl (by simp)) l o' (Only.refl _ _)), h2⟩
theorem tookS_early {B : Nat} {w0 wf : World} {p N x : Nat} {c : Cl} {o : Ou} {l : List Value} (hB : B ≤ w0.heap.size) (q1 : Sys B wf p N c) (q2 : OutV wf l o) (q3 : Stp B w0 wf) (hX : Blk wf x out0 90) (hx : w0.heap.size ≤ x) :
    TookS B w0 (wf.setCells x 0 l) p N c o (.pointer (some ⟨x, 0, none⟩)) (.int .i64 0) := by
  have hs := hX.sets l 0 (by rw [q2.len]; exact Nat.le_refl _)
  rw [spl_all (by rw [q2.len]; rfl)] at hs
  have hk : Only [x] wf (wf.setCells x 0 l) := Only.setCells (.inl (by simp)) l 0 (Only.refl _ _)
  refine ⟨x, l, rfl, rfl, hs, q2.keeps (hk.keeps hX (by decide)), q1.set hX (out0_v wf) 0, ⟨q3.low.trans (Only.below (Below.refl _ _) hk (by simp; omega) (Nat.le_trans hB q3.size)), fun b cs t fz hc ht => ?_⟩⟩
  have hlt := lt_of_heap hc
  exact (hk.block b (Nat.lt_of_lt_of_le hlt q3.size) (by simp; omega)).trans (q3.stays b cs t fz hc ht)
theorem TookS.drw {B : Nat} {w0 wx : World} {p N : Nat} {c : Cl} {o : Ou} {v8 v9 : Value} (h : TookS B w0 wx p N c o v8 v9) (hB : B ≤ w0.heap.size) : TookS B w0 wx.drew p N c o v8 v9 := by
  obtain ⟨x, l, e1, e2, e3, e4, e5, e6⟩ := h
  exact ⟨x, l, e1, e2, e3.below (Below.refl _ _).drew, e4.below (Below.refl _ _).drew, e5.drw, e6.drw hB⟩
/-- What a reply makes of the client that knows who serves. -/
def stepC (e way : Int) (q : Int × Int × Int × Int) (x : Int) : Cl := if 3 ≤ manyQ q x then doneC (mapC e way (ansQ q)) else if way = 2 ∧ oddQ q = true then mapC e 3 (fun _ => none) else mapC e way (ansQ q)
def stepO (e way : Int) (q : Int × Int × Int × Int) (x : Int) : Ou := if 3 ≤ manyQ q x then doneO (mapC e way (ansQ q)) Ou.zero (readA x) else if way = 2 ∧ oddQ q = true then againO (mapC e 3 (fun _ => none)) Ou.zero else Ou.zero
theorem mapC_fits (e way : Int) (ans : Int → Option An) (h : ∀ k a, ans k = some a → k ∈ fiveL) : Fits (mapC e way ans) :=
  ⟨(by decide : goodC 1 fiveL = true), (by decide : (0 : Int) ≤ 2 ∧ (2 : Int) ≤ 1000000), (Wf.of (by decide) (by decide) : Wf 1), (Wf.of (by decide) (by decide) : Wf 3), h, fun m hm => by
    have hm' : some (fiveL, e) = some m := hm
    cases hm'; exact (show goodC 1 fiveL = true by decide), fun _ _ => rfl⟩
theorem take_mapS (B p N : Nat) (e way : Int) (hw : way = 2 ∨ way = 3) (q : Int × Int × Int × Int) (n x fr : Int) (hn : 0 ≤ n ∧ n < 4) (hf : fr = 5 + n) (hx : x ≠ -1) (da : Option Addr) (dc : Nat) (na : Option Addr) (nc : Nat) (w : World) (hN1 : N + 1 < 1000000) (h : Sys B w p N (mapC e way (ansQ q)))
    (hD : BL w da (readA x).data) (hDn : da = none → dc = 0) (hN : IL w na (readA x).nodes) (hNn : na = none → nc = 0) :
    Calls Try.prog 52 #[.pointer (some ⟨p, 0, none⟩), .agg (noteL 2 fr (lookW e).group (lookW e).epoch (.slice none 0 0) (ansL (readA x) da dc na nc) (lookW e).stamp (lookW e).client).toArray] w (GiveS B p (N + 2) (stepC e way (set4 n x q) x) (stepO e way (set4 n x q) x) 0 w) := by
  subst hf
  have hm : (5 + n) ∈ fiveL := by
    have : n = 0 ∨ n = 1 ∨ n = 2 ∨ n = 3 := by omega
    rcases this with rfl | rfl | rfl | rfl <;> decide
  have h1 := take_sys B p N (mapC e way (ansQ q)) (replyN (5 + n) (lookW e) (readA x)) da dc na nc w h (mapC_fits e way _ (keysQ q)) (heard_map e way hw (ansQ q) (5 + n) (readA x) hm) hN1 hD hDn hN hNn
  rw [(take_map e way hw q n x hn hx).1, (take_map e way hw q n x hn hx).2] at h1
  exact h1
theorem note81_at {w w' : World} {g : Nat} {nl : List Value} (hG : Blk w g nl 81) (hL : nl.length = 58) (hS : Below w.heap.size w w') : cellsAt w' ⟨g, 0, none⟩ 58 = nl ∧ Held w' ⟨g, 0, none⟩ 58 :=
  ⟨by rw [(hG.below hS).cells (by omega), List.drop_zero, List.take_of_length_le (by omega)], (hG.below hS).held (by omega)⟩
/-- A note that is laid into a fresh block. -/
theorem put_note {w : World} {l : List Value} (hl : l.length = 58) (h1 : ∀ v ∈ l, v.oneCell' = true) : Room (w.alloc (.cells note0.toArray 81)) ⟨w.heap.size, 0, none⟩ 58 ∧ isAgg 58 (.agg l.toArray) ∧ Below w.heap.size w ((w.alloc (.cells note0.toArray 81)).setCells w.heap.size 0 l) ∧
    Blk ((w.alloc (.cells note0.toArray 81)).setCells w.heap.size 0 l) w.heap.size l 81 := by
  have hN := Blk.new w note0 81
  have hb := below_sets (Nat.le_refl _) l 0 (Below.new w (.cells note0.toArray 81))
  have hs := hN.sets l 0 (by rw [show note0.length = 58 from rfl, hl]; exact Nat.le_refl _)
  rw [spl_all (by rw [show note0.length = 58 from rfl, hl])] at hs
  exact ⟨hN.room (by rw [show note0.length = 58 from rfl]; exact Nat.le_refl _), agg_of hl h1, hb, hs⟩
/-- The cells of what comes of something. -/
theorem OutV.parts {w : World} {l : List Value} {o : Ou} (h : OutV w l o) : ∃ da dc na nc, (l[60]? = some (.bool o.done) ∧ l[62]? = some (.int .i64 o.call.stamp) ∧ l[66]? = some (.int .i64 o.call.block) ∧ l[68]? = some (.int .i64 o.call.old) ∧ l[69]? = some (.int .i64 o.call.new)) ∧
    (l[71]? = some (.int .i64 o.ans.err) ∧ l[72]? = some (.slice da o.ans.data.length dc) ∧ l[73]? = some (.int .i64 o.ans.ep) ∧ l[74]? = some (.slice na o.ans.nodes.length nc)) ∧ BL w da o.ans.data ∧ IL w na o.ans.nodes := by
  obtain ⟨ta, tc, nl, ca, cc, da, dc, na, nc, e, _, hn, _, ⟨h1, _⟩, h2, _⟩ := h
  have hl := hn.len
  subst e
  exact ⟨da, dc, na, nc, ⟨outL_rest hl 1, outL_rest hl 3, outL_rest hl 7, outL_rest hl 9, outL_rest hl 10⟩, ⟨outL_rest hl 12, outL_rest hl 13, outL_rest hl 14, outL_rest hl 15⟩, h1, h2⟩
theorem cells7 {w w' : World} {g : Nat} {l : List Value} {v0 v1 v2 v3 v4 v5 v6 : Value} (hG : Blk w g l 90) (h : l[60]? = some v0 ∧ l[62]? = some v1 ∧ l[66]? = some v2 ∧ l[71]? = some v3 ∧ l[72]? = some v4 ∧ l[73]? = some v5 ∧ l[74]? = some v6) (hS : Below w.heap.size w w') :
    w'.cell? ⟨g, 60, none⟩ = some v0 ∧ w'.cell? ⟨g, 62, none⟩ = some v1 ∧ w'.cell? ⟨g, 66, none⟩ = some v2 ∧ w'.cell? ⟨g, 71, none⟩ = some v3 ∧ w'.cell? ⟨g, 72, none⟩ = some v4 ∧ w'.cell? ⟨g, 73, none⟩ = some v5 ∧ w'.cell? ⟨g, 74, none⟩ = some v6 :=
  ⟨(hG.below hS).cell h.1, (hG.below hS).cell h.2.1, (hG.below hS).cell h.2.2.1, (hG.below hS).cell h.2.2.2.1, (hG.below hS).cell h.2.2.2.2.1, (hG.below hS).cell h.2.2.2.2.2.1, (hG.below hS).cell h.2.2.2.2.2.2⟩
theorem sameRead_is (x : Int) (da : Option Addr) (dc : Nat) (na : Option Addr) (nc : Nat) (da' : Option Addr) (dc' : Nat) (na' : Option Addr) (nc' : Nat) (w : World) (hD : BL w da (readA x).data) (hN : IL w na (readA x).nodes) (hD' : BL w da' (readA x).data) (hN' : IL w na' (readA x).nodes) :
    Calls Try.prog 54 #[.agg #[.int .i64 0, .slice da 1 dc, .int .i64 0, .slice na 0 nc], .agg #[.int .i64 0, .slice da' 1 dc', .int .i64 0, .slice na' 0 nc']] w fun e w' => e = .returned (.bool true) ∧ Below w.heap.size w w' :=
  sameAns_is (readA x) da dc na nc da' dc' na' nc' w hD hN hD' hN'
end Go.Proofs.Ytldcpnabgpjgiaa.Walks
