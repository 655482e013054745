/-
  The states of the law's client 31.
  What stays where a client and its maps alone have turned.
  Plain: what the law's client comes to, call by call.
  Plain: what the law's writer comes to, call by call; notes that do not count; a replacement.
-/
import Derived.Test.YtldcpnabgpjgiaaDiskV
namespace Go.Proofs.Ytldcpnabgpjgiaa.Walks
open Go.RowKit Plain
set_option linter.unusedVariables false

/-- The call, the wish that is said; the client that knows who serves chunk 1, in a way, with answers. -/
def callW : Wi := ⟨31, 1, 1, 0, 1, 3, [], 0, 0⟩
def lookW (e : Int) : Wi := ⟨31, 2, 1, e, 1, 3, [], 0, 0⟩
def askW : Wi := ⟨31, 1, 0, 0, 3, 1, [], 0, 0⟩
def fiveL : List Int := [5, 6, 7, 8]
def mapC (e way : Int) (ans : Int → Option An) : Cl := ⟨31, 1, upF (fun _ => none) 1 (some (fiveL, e)), 2, 1, way, callW, 2, fiveL, if way = 2 then 14 else 1, lookW e, ans⟩
def askS (ans : Int → Option An) : Cl := ⟨31, 1, fun _ => none, 1, 1, 1, callW, 0, dirL, 1, askW, ans⟩
theorem begin_ask : beginC (newC 31 1) (readW 3) = askS (fun _ => none) ∧ beginO (newC 31 1) (readW 3) = againO (askS (fun _ => none)) (beganO callW) := ⟨rfl, rfl⟩
def replyN (fr : Int) (W : Wi) (A : An) : No := ⟨2, fr, W.group, W.epoch, A, W.stamp, W.client⟩
theorem heard_ask (ans : Int → Option An) (fr : Int) (A : An) (h : fr = 1 ∨ fr = 2) : heardB (askS ans) (replyN fr askW A) = true := by
  rcases h with rfl | rfl <;> rfl
theorem heard_map (e way : Int) (hw : way = 2 ∨ way = 3) (ans : Int → Option An) (fr : Int) (A : An) (h : fr ∈ fiveL) : heardB (mapC e way ans) (replyN fr (lookW e) A) = true := by
  have hc : hasC 1 fiveL fr = true := by
    simp only [fiveL, List.mem_cons, List.not_mem_nil, or_false] at h
    rcases h with rfl | rfl | rfl | rfl <;> rfl
  have h0 : way ≠ 0 := by omega
  unfold heardB
  rw [show (mapC e way ans).crew = fiveL from rfl, show (replyN fr (lookW e) A).fr = fr from rfl, hc]
  simp [mapC, replyN, lookW, h0]
def servesA (e : Int) : An := ⟨0, [], e, fiveL⟩
theorem take_ask1 (e : Int) : takeC (askS (fun _ => none)) (replyN 1 askW (servesA e)) = askS (upF (fun _ => none) 1 (some (servesA e))) ∧ takeO (askS (fun _ => none)) (replyN 1 askW (servesA e)) = Ou.zero := by
  have hh := heard_ask (fun _ => none) 1 (servesA e) (.inl rfl)
  have hn : cntA dirL (upF (fun _ => none) 1 (some (servesA e))) (servesA e) = 1 := by
    simp [cntA, dirL, upF]
  have hb : countB (hearC (askS (fun _ => none)) (replyN 1 askW (servesA e))) (servesA e) = 0 := by
    unfold countB
    rw [if_pos (show (hearC (askS (fun _ => none)) (replyN 1 askW (servesA e))).way = 1 from rfl)]
    rw [show cntA (hearC (askS (fun _ => none)) (replyN 1 askW (servesA e))).crew (hearC (askS (fun _ => none)) (replyN 1 askW (servesA e))).ans (servesA e) = 1 from hn]
    rfl
  unfold takeC takeO
  rw [hh]
  simp only [if_true]
  unfold countC countO
  rw [show (replyN 1 askW (servesA e)).ans = servesA e from rfl, hb]
  exact ⟨rfl, rfl⟩
theorem take_ask2 (e : Int) : takeC (askS (upF (fun _ => none) 1 (some (servesA e)))) (replyN 2 askW (servesA e)) = mapC e 2 (fun _ => none) ∧ takeO (askS (upF (fun _ => none) 1 (some (servesA e)))) (replyN 2 askW (servesA e)) = againO (mapC e 2 (fun _ => none)) Ou.zero := by
  have hh := heard_ask (upF (fun _ => none) 1 (some (servesA e))) 2 (servesA e) (.inr rfl)
  have hn : cntA dirL (upF (upF (fun _ => none) 1 (some (servesA e))) 2 (some (servesA e))) (servesA e) = 2 := by
    simp [cntA, dirL, upF]
  have hb : countB (hearC (askS (upF (fun _ => none) 1 (some (servesA e)))) (replyN 2 askW (servesA e))) (servesA e) = 1 := by
    unfold countB
    rw [if_pos (show (hearC (askS (upF (fun _ => none) 1 (some (servesA e)))) (replyN 2 askW (servesA e))).way = 1 from rfl)]
    rw [show cntA (hearC (askS (upF (fun _ => none) 1 (some (servesA e)))) (replyN 2 askW (servesA e))).crew (hearC (askS (upF (fun _ => none) 1 (some (servesA e)))) (replyN 2 askW (servesA e))).ans (servesA e) = 2 from hn]
    rfl
  unfold takeC takeO
  rw [hh]
  simp only [if_true]
  unfold countC countO
  rw [show (replyN 2 askW (servesA e)).ans = servesA e from rfl, hb]
  exact ⟨rfl, rfl⟩
end Go.Proofs.Ytldcpnabgpjgiaa.Walks
namespace Go.Proofs.Ytldcpnabgpjgiaa.Walks
open Go.RowKit Plain
set_option linter.unusedVariables false
theorem VM.cells_ne {w : World} {k : TypeId} {r n : Nat} {f : Value → Option Value} (h : VM w k r n f) : ∀ cs t fz, w.heap[r]? ≠ some (Obj.cells cs t fz) := by
  intro cs t fz hc
  obtain ⟨D, ⟨es, clock, h1, _⟩, _⟩ := h
  rw [h1] at hc
  cases hc
theorem Only.keeps3 {w w' : World} {p r1 r2 N : Nat} {c : Cl} (ho : Only [p, r1, r2] w w') (h : CliAt w p r1 r2 N c) (hw : c.way ≠ 0) : Keeps w w' := fun b cs t fz hc ht =>
  (ho.block b (lt_of_heap hc) (by
    obtain ⟨F, h1, _⟩ := h.mapM
    obtain ⟨G, h2, _⟩ := (h.mapA hw).1
    obtain ⟨da, dc, la, lc, cf, cs', said, am, hP, _⟩ := h
    simp only [List.mem_cons, List.not_mem_nil, or_false, not_or]
    refine ⟨?_, ?_, ?_⟩
    · rintro rfl
      have hP' : w.heap[b]? = some (.cells (cliL c da dc r1 la lc cf cs' said am).toArray 113 (0, 0)) := hP
      rw [hP'] at hc
      cases hc
      rcases ht with h | h | h <;> cases h
    · rintro rfl; exact h1.cells_ne _ _ _ hc
    · rintro rfl; exact h2.cells_ne _ _ _ hc)).trans hc
theorem Only.out3 {w w' : World} {p r1 r2 N : Nat} {c : Cl} (ho : Only [p, r1, r2] w w') (h : CliAt w p r1 r2 N c) (hw : c.way ≠ 0) {g : Nat} {l : List Value} {o : Ou} (hG : Blk w g l 90) (hV : OutV w l o) : Blk w' g l 90 ∧ OutV w' l o := by
  obtain ⟨n1, n2, n3⟩ := h.ne (g := g) ⟨l, hG, hV⟩
  exact ⟨ho.blk hG (by simp only [List.mem_cons, List.not_mem_nil, or_false, not_or]; exact ⟨n1.symm, n2.symm, (n3 hw).symm⟩), hV.keeps (ho.keeps3 h hw)⟩
theorem out_at {w w' : World} {g : Nat} {l : List Value} (hG : Blk w g l 90) (hL : l.length = 75) (hS : Below w.heap.size w w') : cellsAt w' ⟨g, 0, none⟩ 75 = l ∧ Held w' ⟨g, 0, none⟩ 75 :=
  ⟨by rw [(hG.below hS).cells (by omega), List.drop_zero, List.take_of_length_le (by omega)], (hG.below hS).held (by omega)⟩
theorem says_look (e : Int) (l : List Value) (a : Addr) (w : World) (h : OutV w l (againO (mapC e 2 (fun _ => none)) Ou.zero)) (hI : IL w (some a) [5, 6, 7, 8]) :
    Calls Try.prog 55 #[.agg l.toArray, .int .i64 0, .slice (some a) 4 4, .int .i64 14, .agg #[.int .i64 31, .int .i64 2, .int .i64 1, .int .i64 e, .int .i64 1, .int .i64 3, .slice none 0 0, .int .i64 0, .int .i64 0, .slice none 0 0]] w fun en w' => en = .returned (.bool true) ∧ Below w.heap.size w w' :=
  says_is l (againO (mapC e 2 (fun _ => none)) Ou.zero) 14 (lookW e) fiveL (some a) 4 4 none 0 w h rfl rfl rfl rfl hI (BL.nil _ _)
end Go.Proofs.Ytldcpnabgpjgiaa.Walks
namespace Go.Proofs.Ytldcpnabgpjgiaa.Walks
open Go.RowKit Plain
set_option linter.unusedVariables false

def readA (b : Int) : An := ⟨0, [b], 0, []⟩
/-- Which of the answers each of the four nodes gave last: -1 none. -/
def optA (x : Int) : Option An := if x = -1 then none else some (readA x)
def ans4 (a b c d : Int) : Int → Option An := fun k => if k = 5 then optA a else if k = 6 then optA b else if k = 7 then optA c else if k = 8 then optA d else none
theorem ans4_none : ans4 (-1) (-1) (-1) (-1) = fun _ => none := by
  funext k; simp [ans4, optA]
theorem readA_inj {x y : Int} : readA x = readA y ↔ x = y := by
  constructor
  · intro h; have := congrArg An.data h; simpa [readA] using this
  · rintro rfl; rfl
theorem optA_eq {y x : Int} (hx : x ≠ -1) : (optA y = some (readA x)) ↔ y = x := by
  unfold optA
  split
  · rename_i h; subst h; simp; exact fun h => hx h.symm
  · rw [Option.some.injEq, readA_inj]
def one (y x : Int) : Nat := if y = x then 1 else 0
def many4 (a b c d x : Int) : Nat := one a x + one b x + one c x + one d x
theorem cnt4 (a b c d x : Int) (hx : x ≠ -1) : cntA fiveL (ans4 a b c d) (readA x) = many4 a b c d x := by
  have e5 : ans4 a b c d 5 = optA a := rfl
  have e6 : ans4 a b c d 6 = optA b := rfl
  have e7 : ans4 a b c d 7 = optA c := rfl
  have e8 : ans4 a b c d 8 = optA d := rfl
  unfold cntA many4 one fiveL
  simp only [List.filter_cons, List.filter_nil, e5, e6, e7, e8, optA_eq hx]
  by_cases h1 : a = x <;> by_cases h2 : b = x <;> by_cases h3 : c = x <;> by_cases h4 : d = x <;> simp [h1, h2, h3, h4]
theorem up5 (a b c d x : Int) (hx : x ≠ -1) : upF (ans4 a b c d) 5 (some (readA x)) = ans4 x b c d := by
  funext k; unfold upF ans4; split <;> simp_all [optA]
theorem up6 (a b c d x : Int) (hx : x ≠ -1) : upF (ans4 a b c d) 6 (some (readA x)) = ans4 a x c d := by
  funext k; unfold upF ans4; split <;> simp_all [optA]
theorem up7 (a b c d x : Int) (hx : x ≠ -1) : upF (ans4 a b c d) 7 (some (readA x)) = ans4 a b x d := by
  funext k; unfold upF ans4; split <;> simp_all [optA]
theorem up8 (a b c d x : Int) (hx : x ≠ -1) : upF (ans4 a b c d) 8 (some (readA x)) = ans4 a b c x := by
  funext k; unfold upF ans4; split <;> simp_all [optA]
/-- The four, the n-th of them another. -/
def set4 (n x : Int) (q : Int × Int × Int × Int) : Int × Int × Int × Int :=
  if n = 0 then (x, q.2.1, q.2.2.1, q.2.2.2) else if n = 1 then (q.1, x, q.2.2.1, q.2.2.2) else if n = 2 then (q.1, q.2.1, x, q.2.2.2) else (q.1, q.2.1, q.2.2.1, x)
def ansQ (q : Int × Int × Int × Int) : Int → Option An := ans4 q.1 q.2.1 q.2.2.1 q.2.2.2
def manyQ (q : Int × Int × Int × Int) (x : Int) : Nat := many4 q.1 q.2.1 q.2.2.1 q.2.2.2 x
theorem upQ (q : Int × Int × Int × Int) (n x : Int) (hn : 0 ≤ n ∧ n < 4) (hx : x ≠ -1) : upF (ansQ q) (5 + n) (some (readA x)) = ansQ (set4 n x q) := by
  obtain ⟨a, b, c, d⟩ := q
  have : n = 0 ∨ n = 1 ∨ n = 2 ∨ n = 3 := by omega
  rcases this with rfl | rfl | rfl | rfl
  · exact up5 a b c d x hx
  · exact up6 a b c d x hx
  · exact up7 a b c d x hx
  · exact up8 a b c d x hx
theorem cntQ (q : Int × Int × Int × Int) (x : Int) (hx : x ≠ -1) : cntA fiveL (ansQ q) (readA x) = manyQ q x := cnt4 _ _ _ _ _ hx
theorem keysQ (q : Int × Int × Int × Int) : ∀ k a, ansQ q k = some a → k ∈ fiveL := by
  intro k a h
  unfold ansQ ans4 at h
  by_cases h5 : k = 5
  · rw [h5]; decide
  by_cases h6 : k = 6
  · rw [h6]; decide
  by_cases h7 : k = 7
  · rw [h7]; decide
  by_cases h8 : k = 8
  · rw [h8]; decide
  simp [h5, h6, h7, h8] at h
/-- How many gave the answer that most gave. -/
def giv (y : Int) (m : Nat) : Nat := if y = -1 then 0 else m
def best4 (a b c d : Int) : Nat := max (giv a (many4 a b c d a)) (max (giv b (many4 a b c d b)) (max (giv c (many4 a b c d c)) (max (giv d (many4 a b c d d)) 0)))
def len4 (a b c d : Int) : Nat := giv a 1 + giv b 1 + giv c 1 + giv d 1
theorem one4 (a b c d y k : Int) (h : ans4 a b c d k = optA y) : oneA fiveL (ans4 a b c d) k = giv y (many4 a b c d y) := by
  unfold oneA giv
  rw [h]
  unfold optA
  by_cases hy : y = -1
  · simp [hy]
  · simp only [hy, if_false]
    exact cnt4 a b c d y hy
theorem best_is (a b c d : Int) : bestA fiveL (ans4 a b c d) = best4 a b c d := by
  unfold bestA best4
  simp only [fiveL, List.foldr]
  rw [show oneA [5, 6, 7, 8] (ans4 a b c d) 5 = giv a (many4 a b c d a) from one4 a b c d a 5 rfl, show oneA [5, 6, 7, 8] (ans4 a b c d) 6 = giv b (many4 a b c d b) from one4 a b c d b 6 rfl,
    show oneA [5, 6, 7, 8] (ans4 a b c d) 7 = giv c (many4 a b c d c) from one4 a b c d c 7 rfl, show oneA [5, 6, 7, 8] (ans4 a b c d) 8 = giv d (many4 a b c d d) from one4 a b c d d 8 rfl]
theorem len_is (a b c d : Int) : lenA fiveL (ans4 a b c d) = len4 a b c d := by
  have e5 : ans4 a b c d 5 = optA a := rfl
  have e6 : ans4 a b c d 6 = optA b := rfl
  have e7 : ans4 a b c d 7 = optA c := rfl
  have e8 : ans4 a b c d 8 = optA d := rfl
  unfold lenA len4 giv fiveL
  simp only [List.filter_cons, List.filter_nil, e5, e6, e7, e8]
  unfold optA
  by_cases h1 : a = -1 <;> by_cases h2 : b = -1 <;> by_cases h3 : c = -1 <;> by_cases h4 : d = -1 <;> simp [h1, h2, h3, h4]
def bestQ (q : Int × Int × Int × Int) : Nat := best4 q.1 q.2.1 q.2.2.1 q.2.2.2
def lenQ (q : Int × Int × Int × Int) : Nat := len4 q.1 q.2.1 q.2.2.1 q.2.2.2
/-- Is it wished in order, behind a look? -/
def oddQ (q : Int × Int × Int × Int) : Bool := decide (bestQ q + 4 < 3 + lenQ q)
theorem count_map (e way : Int) (hw : way = 2 ∨ way = 3) (q : Int × Int × Int × Int) (x : Int) (hx : x ≠ -1) :
    countB (mapC e way (ansQ q)) (readA x) = if 3 ≤ manyQ q x then 3 else if way = 2 ∧ oddQ q = true then 4 else 0 := by
  have h1 : ¬ way = 1 := by omega
  have hc : cntA (mapC e way (ansQ q)).crew (mapC e way (ansQ q)).ans (readA x) = manyQ q x := cntQ q x hx
  have hb : bestA (mapC e way (ansQ q)).crew (mapC e way (ansQ q)).ans = bestQ q := best_is _ _ _ _
  have hl : lenA (mapC e way (ansQ q)).crew (mapC e way (ansQ q)).ans = lenQ q := len_is _ _ _ _
  unfold countB
  rw [hc, hb, hl]
  rw [show (mapC e way (ansQ q)).way = way from rfl, show (mapC e way (ansQ q)).call.kind = 1 from rfl, show (readA x).err = 0 from rfl, show (mapC e way (ansQ q)).crew.length = 4 from rfl]
  rw [if_neg h1, if_neg (by omega)]
  unfold oddQ
  by_cases h3 : 3 ≤ manyQ q x
  · rw [if_pos (Or.inl h3), if_pos h3]
  · rw [if_neg (by omega), if_neg h3]
    simp
/-- A reply taken by the client that knows who serves. -/
theorem take_map (e way : Int) (hw : way = 2 ∨ way = 3) (q : Int × Int × Int × Int) (n x : Int) (hn : 0 ≤ n ∧ n < 4) (hx : x ≠ -1) :
    takeC (mapC e way (ansQ q)) (replyN (5 + n) (lookW e) (readA x)) =
      (if 3 ≤ manyQ (set4 n x q) x then doneC (mapC e way (ansQ (set4 n x q))) else if way = 2 ∧ oddQ (set4 n x q) = true then mapC e 3 (fun _ => none) else mapC e way (ansQ (set4 n x q))) ∧
    takeO (mapC e way (ansQ q)) (replyN (5 + n) (lookW e) (readA x)) =
      (if 3 ≤ manyQ (set4 n x q) x then doneO (mapC e way (ansQ (set4 n x q))) Ou.zero (readA x) else if way = 2 ∧ oddQ (set4 n x q) = true then againO (mapC e 3 (fun _ => none)) Ou.zero else Ou.zero) := by
  have hm : (5 + n) ∈ fiveL := by
    have : n = 0 ∨ n = 1 ∨ n = 2 ∨ n = 3 := by omega
    rcases this with rfl | rfl | rfl | rfl <;> decide
  have hh := heard_map e way hw (ansQ q) (5 + n) (readA x) hm
  have hc : hearC (mapC e way (ansQ q)) (replyN (5 + n) (lookW e) (readA x)) = mapC e way (ansQ (set4 n x q)) := by
    show mapC e way (upF (ansQ q) (5 + n) (some (readA x))) = _
    rw [upQ q n x hn hx]
  unfold takeC takeO
  rw [hh, hc]
  simp only [if_true]
  rw [show (replyN (5 + n) (lookW e) (readA x)).ans = readA x from rfl]
  unfold countC countO
  rw [count_map e way hw _ x hx]
  by_cases h3 : 3 ≤ manyQ (set4 n x q) x
  · simp only [h3, if_true]
    exact ⟨rfl, rfl⟩
  · by_cases h4 : way = 2 ∧ oddQ (set4 n x q) = true
    · simp only [h3, h4, if_false]
      obtain ⟨rfl, _⟩ := h4
      exact ⟨rfl, rfl⟩
    · simp only [h3, h4, if_false]
      exact ⟨rfl, rfl⟩
/-- A look: i of the four answered. -/
def inR (x : Int) : Bool := decide (-1 ≤ x) && decide (x ≤ 3)
theorem best_max : ∀ a ∈ [-1, 0, 1, 2, 3], ∀ b ∈ [-1, 0, 1, 2, 3], ∀ c ∈ [-1, 0, 1, 2, 3], ∀ d ∈ [-1, 0, 1, 2, 3], best4 a b c d = max (many4 a b c d 0) (max (many4 a b c d 1) (max (many4 a b c d 2) (many4 a b c d 3))) := by
  decide +kernel
end Go.Proofs.Ytldcpnabgpjgiaa.Walks
namespace Go.Proofs.Ytldcpnabgpjgiaa.Walks
open Go.RowKit Plain
set_option linter.unusedVariables false

def zeros16 : List Int := List.replicate 16 0
def callX : Wi := ⟨32, 1, 1, 0, 2, 5, zeros16, 0, 0⟩
/-- The writer asks; it wishes. -/
def askX (S : Int) : Wi := ⟨32, S, 0, 0, 3, 1, [], 0, 0⟩
def putX (own ep : Int) : Wi := ⟨32, own, 1, ep, 2, 5, zeros16, 0, 0⟩
def askZ (S own : Int) (ans : Int → Option An) : Cl := ⟨32, 1, fun _ => none, S, 1, 1, callX, own, dirL, 1, askX S, ans⟩
def putZ (S own ep : Int) (ans : Int → Option An) : Cl := ⟨32, 1, upF (fun _ => none) 1 (some (fiveL, ep)), S, 1, 3, callX, own, fiveL, 1, putX own ep, ans⟩
def otherA (ep : Int) : An := ⟨171, [], ep, []⟩
def oneF (k : Int) (A : An) : Int → Option An := upF (fun _ => none) k (some A)
theorem begin_put : beginC ⟨32, 1, fun _ => none, 0, 0, 0, Wi.zero, 0, [], 0, Wi.zero, fun _ => none⟩ ⟨0, 0, 1, 0, 2, 5, zeros16, 0, 0⟩ = askZ 1 0 (fun _ => none) := rfl
theorem heard_askZ (S own : Int) (ans : Int → Option An) (fr : Int) (A : An) (h : fr = 1 ∨ fr = 2) : heardB (askZ S own ans) (replyN fr (askX S) A) = true := by
  unfold heardB
  rcases h with rfl | rfl <;> simp [askZ, replyN, askX] <;> decide
theorem heard_putZ (S own ep : Int) (ans : Int → Option An) (fr : Int) (A : An) (h : fr = 5 ∨ fr = 6) : heardB (putZ S own ep ans) (replyN fr (putX own ep) A) = true := by
  unfold heardB
  rcases h with rfl | rfl <;> simp [putZ, replyN, putX] <;> decide
theorem count_one (l : List Int) (k : Int) (A : An) : cntA l (oneF k A) A = (l.filter fun x => decide (x = k)).length := by
  unfold cntA oneF upF
  congr 1
  apply List.filter_congr
  intro x _
  by_cases h : x = k <;> simp [h]
theorem count_two (l : List Int) (k k' : Int) (A : An) : cntA l (upF (oneF k A) k' (some A)) A = (l.filter fun x => decide (x = k ∨ x = k')).length := by
  unfold cntA oneF upF
  congr 1
  apply List.filter_congr
  intro x _
  by_cases h : x = k' <;> by_cases h' : x = k <;> simp [h, h']
theorem take_askZ1 (S own ep : Int) : takeC (askZ S own (fun _ => none)) (replyN 1 (askX S) (servesA ep)) = askZ S own (oneF 1 (servesA ep)) ∧ takeO (askZ S own (fun _ => none)) (replyN 1 (askX S) (servesA ep)) = Ou.zero := by
  have hh := heard_askZ S own (fun _ => none) 1 (servesA ep) (.inl rfl)
  have hn : cntA dirL (oneF 1 (servesA ep)) (servesA ep) = 1 := by rw [count_one]; rfl
  have hb : countB (hearC (askZ S own (fun _ => none)) (replyN 1 (askX S) (servesA ep))) (servesA ep) = 0 := by
    unfold countB
    rw [if_pos (show (hearC (askZ S own (fun _ => none)) (replyN 1 (askX S) (servesA ep))).way = 1 from rfl)]
    rw [show cntA (hearC (askZ S own (fun _ => none)) (replyN 1 (askX S) (servesA ep))).crew (hearC (askZ S own (fun _ => none)) (replyN 1 (askX S) (servesA ep))).ans (servesA ep) = 1 from hn]
    rfl
  unfold takeC takeO
  rw [hh]
  simp only [if_true]
  unfold countC countO
  rw [show (replyN 1 (askX S) (servesA ep)).ans = servesA ep from rfl, hb]
  exact ⟨rfl, rfl⟩
/-- The stamp that the writer's wish bears, once it has one. -/
def ownOf (S own : Int) : Int := if own = 0 then S + 1 else own
def stampOf (S own : Int) : Int := if own = 0 then S + 1 else S
theorem take_askZ2 (S own ep : Int) : takeC (askZ S own (oneF 1 (servesA ep))) (replyN 2 (askX S) (servesA ep)) = putZ (stampOf S own) (ownOf S own) ep (fun _ => none) ∧
    takeO (askZ S own (oneF 1 (servesA ep))) (replyN 2 (askX S) (servesA ep)) = againO (putZ (stampOf S own) (ownOf S own) ep (fun _ => none)) Ou.zero := by
  have hh := heard_askZ S own (oneF 1 (servesA ep)) 2 (servesA ep) (.inr rfl)
  have hn : cntA dirL (upF (oneF 1 (servesA ep)) 2 (some (servesA ep))) (servesA ep) = 2 := by rw [count_two]; rfl
  have hb : countB (hearC (askZ S own (oneF 1 (servesA ep))) (replyN 2 (askX S) (servesA ep))) (servesA ep) = 1 := by
    unfold countB
    rw [if_pos (show (hearC (askZ S own (oneF 1 (servesA ep))) (replyN 2 (askX S) (servesA ep))).way = 1 from rfl)]
    rw [show cntA (hearC (askZ S own (oneF 1 (servesA ep))) (replyN 2 (askX S) (servesA ep))).crew (hearC (askZ S own (oneF 1 (servesA ep))) (replyN 2 (askX S) (servesA ep))).ans (servesA ep) = 2 from hn]
    rfl
  have hcc : countC (hearC (askZ S own (oneF 1 (servesA ep))) (replyN 2 (askX S) (servesA ep))) (servesA ep) = putZ (stampOf S own) (ownOf S own) ep (fun _ => none) := by
    unfold countC
    rw [hb]
    show onC { (askZ S own (upF (oneF 1 (servesA ep)) 2 (some (servesA ep)))) with maps := upF (fun _ => none) 1 (some (fiveL, ep)) } = _
    by_cases h : own = 0
    · subst h; rfl
    · have e : onC { (askZ S own (upF (oneF 1 (servesA ep)) 2 (some (servesA ep)))) with maps := upF (fun _ => none) 1 (some (fiveL, ep)) } = orderC { (askZ S own (upF (oneF 1 (servesA ep)) 2 (some (servesA ep)))) with maps := upF (fun _ => none) 1 (some (fiveL, ep)) } (fiveL, ep) := rfl
      rw [e]
      unfold orderC ownC
      rw [if_neg (show ¬ (askZ S own (upF (oneF 1 (servesA ep)) 2 (some (servesA ep)))).own = 0 from h)]
      unfold stampOf ownOf
      rw [if_neg h, if_neg h]
      rfl
  have hco : countO (hearC (askZ S own (oneF 1 (servesA ep))) (replyN 2 (askX S) (servesA ep))) Ou.zero (servesA ep) = againO (countC (hearC (askZ S own (oneF 1 (servesA ep))) (replyN 2 (askX S) (servesA ep))) (servesA ep)) Ou.zero := by
    unfold countC countO
    rw [hb]
    rfl
  unfold takeC takeO
  rw [hh]
  simp only [if_true]
  rw [show (replyN 2 (askX S) (servesA ep)).ans = servesA ep from rfl, hco, hcc]
  exact ⟨rfl, rfl⟩
theorem upF_back (m : List Int × Int) : upF (upF (fun _ => (none : Option (List Int × Int))) 1 (some m)) 1 none = fun _ => none := by
  funext k; unfold upF; split <;> simp_all
theorem take_putZ1 (S own ep ep' : Int) : takeC (putZ S own ep (fun _ => none)) (replyN 5 (putX own ep) (otherA ep')) = putZ S own ep (oneF 5 (otherA ep')) ∧ takeO (putZ S own ep (fun _ => none)) (replyN 5 (putX own ep) (otherA ep')) = Ou.zero := by
  have hh := heard_putZ S own ep (fun _ => none) 5 (otherA ep') (.inl rfl)
  have hn : cntA fiveL (oneF 5 (otherA ep')) (otherA ep') = 1 := by rw [count_one]; rfl
  have hb : countB (hearC (putZ S own ep (fun _ => none)) (replyN 5 (putX own ep) (otherA ep'))) (otherA ep') = 0 := by
    unfold countB
    rw [if_neg (show ¬ (hearC (putZ S own ep (fun _ => none)) (replyN 5 (putX own ep) (otherA ep'))).way = 1 from by show ¬ (3 : Int) = 1; decide)]
    rw [show cntA (hearC (putZ S own ep (fun _ => none)) (replyN 5 (putX own ep) (otherA ep'))).crew (hearC (putZ S own ep (fun _ => none)) (replyN 5 (putX own ep) (otherA ep'))).ans (otherA ep') = 1 from hn]
    rw [if_neg (by omega), if_neg (by omega), if_neg (by rintro ⟨h, _⟩; exact absurd h (by show ¬ (3 : Int) = 2; decide))]
  unfold takeC takeO
  rw [hh]
  simp only [if_true]
  unfold countC countO
  rw [show (replyN 5 (putX own ep) (otherA ep')).ans = otherA ep' from rfl, hb]
  exact ⟨rfl, rfl⟩
theorem take_putZ2 (S own ep ep' : Int) : takeC (putZ S own ep (oneF 5 (otherA ep'))) (replyN 6 (putX own ep) (otherA ep')) = askZ (S + 1) own (fun _ => none) ∧
    takeO (putZ S own ep (oneF 5 (otherA ep'))) (replyN 6 (putX own ep) (otherA ep')) = againO (askZ (S + 1) own (fun _ => none)) Ou.zero := by
  have hh := heard_putZ S own ep (oneF 5 (otherA ep')) 6 (otherA ep') (.inr rfl)
  have hn : cntA fiveL (upF (oneF 5 (otherA ep')) 6 (some (otherA ep'))) (otherA ep') = 2 := by rw [count_two]; rfl
  have hb : countB (hearC (putZ S own ep (oneF 5 (otherA ep'))) (replyN 6 (putX own ep) (otherA ep'))) (otherA ep') = 2 := by
    unfold countB
    rw [if_neg (show ¬ (hearC (putZ S own ep (oneF 5 (otherA ep'))) (replyN 6 (putX own ep) (otherA ep'))).way = 1 from by show ¬ (3 : Int) = 1; decide)]
    rw [show cntA (hearC (putZ S own ep (oneF 5 (otherA ep'))) (replyN 6 (putX own ep) (otherA ep'))).crew (hearC (putZ S own ep (oneF 5 (otherA ep'))) (replyN 6 (putX own ep) (otherA ep'))).ans (otherA ep') = 2 from hn]
    rw [if_pos ⟨Nat.le_refl _, by show ¬ (2 : Int) = 4; decide, rfl⟩]
  have hf : forgetC (hearC (putZ S own ep (oneF 5 (otherA ep'))) (replyN 6 (putX own ep) (otherA ep'))) = ⟨32, 1, fun _ => none, S, 1, 3, callX, own, fiveL, 1, putX own ep, upF (oneF 5 (otherA ep')) 6 (some (otherA ep'))⟩ := by
    show (⟨32, 1, upF (upF (fun _ => none) 1 (some (fiveL, ep))) 1 none, S, 1, 3, callX, own, fiveL, 1, putX own ep, upF (oneF 5 (otherA ep')) 6 (some (otherA ep'))⟩ : Cl) = _
    rw [upF_back]
  have hcc : countC (hearC (putZ S own ep (oneF 5 (otherA ep'))) (replyN 6 (putX own ep) (otherA ep'))) (otherA ep') = askZ (S + 1) own (fun _ => none) := by
    unfold countC
    rw [hb]
    show onC (forgetC (hearC (putZ S own ep (oneF 5 (otherA ep'))) (replyN 6 (putX own ep) (otherA ep')))) = _
    rw [hf]
    rfl
  have hco : countO (hearC (putZ S own ep (oneF 5 (otherA ep'))) (replyN 6 (putX own ep) (otherA ep'))) Ou.zero (otherA ep') = againO (countC (hearC (putZ S own ep (oneF 5 (otherA ep'))) (replyN 6 (putX own ep) (otherA ep'))) (otherA ep')) Ou.zero := by
    unfold countC countO
    rw [hb]
    rfl
  unfold takeC takeO
  rw [hh]
  simp only [if_true]
  rw [show (replyN 6 (putX own ep) (otherA ep')).ans = otherA ep' from rfl, hco, hcc]
  exact ⟨rfl, rfl⟩
/-! ### Notes that do not count -/
theorem not_heard (e : Int) (n : No) (h : n.kind ≠ 2 ∨ n.node ≠ 31 ∨ n.fr ∉ fiveL ∨ n.stamp ≠ 2 ∨ n.group ≠ 1 ∨ n.epoch ≠ e) : heardB (mapC e 2 (fun _ => none)) n = false := by
  unfold heardB
  rw [show (mapC e 2 fun _ => none).way = 2 from rfl, show (mapC e 2 fun _ => none).name = 31 from rfl, show (mapC e 2 fun _ => none).crew = fiveL from rfl, show (mapC e 2 fun _ => none).wish = lookW e from rfl]
  rw [show (lookW e).stamp = 2 from rfl, show (lookW e).group = 1 from rfl, show (lookW e).epoch = e from rfl]
  rcases h with h | h | h | h | h | h
  · simp [h]
  · simp [h]
  · have : hasC 1 fiveL n.fr = false := by simp [hasC, h]
    simp [this]
  · simp [h]
  · simp [h]
  · simp [h]
/-! ### A replacement -/
def callR (old new : Int) : Wi := ⟨34, 1, 0, 0, 4, 2, [], old, new⟩
def stewC (old new : Int) (ans : Int → Option An) : Cl := ⟨34, 2, fun _ => none, 1, 1, 3, callR old new, 1, dirL, 1, callR old new, ans⟩
def epA (e : Int) : An := ⟨0, [], e, []⟩
theorem heard_stew (old new : Int) (ans : Int → Option An) (fr : Int) (A : An) (h : fr = 3 ∨ fr = 4) : heardB (stewC old new ans) (replyN fr (callR old new) A) = true := by
  rcases h with rfl | rfl <;> rfl
theorem take_stew1 (old new : Int) : takeC (stewC old new (fun _ => none)) (replyN 3 (callR old new) (epA 1)) = stewC old new (oneF 3 (epA 1)) ∧ takeO (stewC old new (fun _ => none)) (replyN 3 (callR old new) (epA 1)) = Ou.zero := by
  have hh := heard_stew old new (fun _ => none) 3 (epA 1) (.inl rfl)
  have hn : cntA dirL (oneF 3 (epA 1)) (epA 1) = 1 := by rw [count_one]; rfl
  have hb : countB (hearC (stewC old new (fun _ => none)) (replyN 3 (callR old new) (epA 1))) (epA 1) = 0 := by
    unfold countB
    rw [if_neg (show ¬ (hearC (stewC old new (fun _ => none)) (replyN 3 (callR old new) (epA 1))).way = 1 from by show ¬ (3 : Int) = 1; decide)]
    rw [show cntA (hearC (stewC old new (fun _ => none)) (replyN 3 (callR old new) (epA 1))).crew (hearC (stewC old new (fun _ => none)) (replyN 3 (callR old new) (epA 1))).ans (epA 1) = 1 from hn]
    rw [if_neg (by omega), if_neg (by omega), if_neg (by rintro ⟨h, _⟩; exact absurd h (by show ¬ (3 : Int) = 2; decide))]
  unfold takeC takeO
  rw [hh]
  simp only [if_true]
  unfold countC countO
  rw [show (replyN 3 (callR old new) (epA 1)).ans = epA 1 from rfl, hb]
  exact ⟨rfl, rfl⟩
theorem take_stew2 (old new : Int) : takeC (stewC old new (oneF 3 (epA 1))) (replyN 4 (callR old new) (epA 1)) = doneC (stewC old new (upF (oneF 3 (epA 1)) 4 (some (epA 1)))) ∧
    takeO (stewC old new (oneF 3 (epA 1))) (replyN 4 (callR old new) (epA 1)) = doneO (stewC old new (upF (oneF 3 (epA 1)) 4 (some (epA 1)))) Ou.zero (epA 1) := by
  have hh := heard_stew old new (oneF 3 (epA 1)) 4 (epA 1) (.inr rfl)
  have hn : cntA dirL (upF (oneF 3 (epA 1)) 4 (some (epA 1))) (epA 1) = 2 := by rw [count_two]; rfl
  have hb : countB (hearC (stewC old new (oneF 3 (epA 1))) (replyN 4 (callR old new) (epA 1))) (epA 1) = 3 := by
    unfold countB
    rw [if_neg (show ¬ (hearC (stewC old new (oneF 3 (epA 1))) (replyN 4 (callR old new) (epA 1))).way = 1 from by show ¬ (3 : Int) = 1; decide)]
    rw [show cntA (hearC (stewC old new (oneF 3 (epA 1))) (replyN 4 (callR old new) (epA 1))).crew (hearC (stewC old new (oneF 3 (epA 1))) (replyN 4 (callR old new) (epA 1))).ans (epA 1) = 2 from hn]
    rw [if_neg (by rintro ⟨_, h, _⟩; exact h rfl), if_pos (Or.inr ⟨Nat.le_refl _, rfl⟩)]
  unfold takeC takeO
  rw [hh]
  simp only [if_true]
  unfold countC countO
  rw [show (replyN 4 (callR old new) (epA 1)).ans = epA 1 from rfl, hb]
  exact ⟨rfl, rfl⟩
theorem begin_stew (old new : Int) : beginC ⟨34, 2, fun _ => none, 0, 0, 0, Wi.zero, 0, [], 0, Wi.zero, fun _ => none⟩ ⟨0, 0, 0, 0, 4, 2, [], old, new⟩ = stewC old new (fun _ => none) := rfl
end Go.Proofs.Ytldcpnabgpjgiaa.Walks
