/-
  A plate is written, flushed, a bit of it is turned.
  Plain mathematics of the sums (CRC-64): no program in sight.
-/
import Derived.Test.YtdhidcoglioalaaGreatM04
namespace Go.Proofs.YtdhidcoglioalaaGreat.Walks
open Go.RowKit Plain
set_option linter.unusedVariables false
attribute [local go_sem ↓] exec_load88 exec_store88 exec_alloc88
attribute [local go_sem] isPt_mk adOf_mk isSec_mk sOf_mk alloc_setCells is_new at_new room_new is_past at_past room_past is_drew at_drew room_drew setCells_past setCells_size setCells_drew

/-- Bytes lie in memory. -/
def Bys (w : World) (a : Option Addr) (l : List Byte) : Prop :=
  l.length ≤ 140737488355328 ∧ (l = [] ∨ ∃ b off, a = some ⟨b, off, none⟩ ∧ ∀ i (h : i < l.length), w.cell? ⟨b, off + i, none⟩ = some (byteV l[i]))
theorem Bys.nil (w : World) (a : Option Addr) : Bys w a [] := ⟨by simp, .inl rfl⟩
theorem Bys.of {w w' : World} {a : Option Addr} {l : List Byte} (h : Bys w a l) (hc : ∀ ad v, w.cell? ad = some v → w'.cell? ad = some v) : Bys w' a l := by
  refine ⟨h.1, ?_⟩
  rcases h.2 with rfl | ⟨b, off, rfl, hh⟩
  · exact .inl rfl
  · exact .inr ⟨b, off, rfl, fun i hi => hc _ _ (hh i hi)⟩
theorem Bys.below {w w' : World} {a : Option Addr} {l : List Byte} (h : Bys w a l) (hb : Below w.heap.size w w') : Bys w' a l := h.of fun _ _ hc => keepc hb hc
theorem Bys.only {w w' : World} {R : List Nat} {a : Option Addr} {l : List Byte} (h : Bys w a l) (ho : Only R w w') (hn : ∀ ad, a = some ad → ad.block ∉ R) : Bys w' a l := by
  refine ⟨h.1, ?_⟩
  rcases h.2 with rfl | ⟨b, off, rfl, hh⟩
  · exact .inl rfl
  · exact .inr ⟨b, off, rfl, fun i hi => ho.cell (hn ⟨b, off, none⟩ rfl) (hh i hi)⟩
theorem Bys.at_lt {w : World} {a : Option Addr} {l : List Byte} (h : Bys w a l) {i : Nat} (hi : i < l.length) :
    ∃ b off, a = some ⟨b, off, none⟩ ∧ b < w.heap.size ∧ ∀ i (h : i < l.length), w.cell? ⟨b, off + i, none⟩ = some (byteV l[i]) := by
  rcases h.2 with rfl | ⟨b, off, e, hc⟩
  · simp at hi
  · exact ⟨b, off, e, block_lt_of_cell (hc i hi), hc⟩
theorem Bys.sec {w : World} {b off : Nat} {l : List Byte} (h : Bys w (some ⟨b, off, none⟩) l) (hl : l.length = 64) : Sec88 w ⟨b, off, none⟩ (secOf l) := by
  obtain ⟨b', off', e, _, hc⟩ := h.at_lt (i := 0) (by omega)
  cases e
  refine ⟨rfl, fun j v hv => ?_⟩
  have hj : j < 64 := by
    have := (List.getElem?_eq_some_iff.1 hv).1
    rwa [secL_length] at this
  rw [secL_get _ hj] at hv
  rw [← hv, show (⟨b, off, none⟩ : Addr).off = off from rfl, show (⟨b, off, none⟩ : Addr).block = b from rfl, hc j (by omega)]
  simp [secOf, List.getD_eq_getElem?_getD, List.getElem?_eq_getElem (show j < l.length by omega)]
theorem did_waits (P : Pl) (h : P.goes = false) : P.did.waits = P.waits ∧ P.did.n = P.n := by
  unfold Pl.goes at h
  unfold Pl.did
  cases hf : P.fails
  · simp
  · by_cases hl : 0 < P.left
    · simp [hl]
    · simp [hf, hl] at h
theorem arrayAt88 (w : World) (ad : Addr) (cap : Nat) : (Instr.arrayAt 91 (.slice (some ad) 64 cap)).run Tryz.prog w = .ok (.pointer (some ad)) w := by
  simp [Instr.arrayAt, run_underlying Tryz.underlying91]
set_option maxRecDepth 10000 in
theorem write_any (w : World) (q : PLoc) (P : Pl) (h : PlateAt w q P) (i : Int) (a : Option Addr) (l : List Byte) (cap : Nat) (hB : Bys w a l) (hdis : l ≠ [] → ∀ ad, a = some ad → ad.block ∉ q.R) :
    Calls Tryz.prog 29 #[pv q, .int .i64 i, .slice a l.length cap] w fun e w' => e = .returned (.int .i64 (P.writeE i l)) ∧ PlateAt w' q (P.write i l) ∧ Only q.R w w' := by
  have hH := has_any w q P h i
  have HD := Lib.hid (doing_any w q P h)
  have H := Lib.hid h
  have HB := Lib.hid hB
  have HDis := Lib.hid hdis
  clear h hB hdis
  by_cases h0 : P.has i = 0
  · obtain ⟨hd, h1, h2⟩ := Pl.has_zero h0
    rw [h0] at hH
    have HC := Lib.hid hH
    obtain ⟨k, rfl⟩ : ∃ k : Nat, i = k := ⟨i.toNat, by omega⟩
    have hk : k < P.n := by omega
    have hk4 : k < 4096 := by have := H.out.ok.most; omega
    have HKn := Lib.hid hk
    by_cases hl : l.length = 64
    · cases hg : P.goes
      · have e1 : P.writeE k l = 0 := by simp [Pl.writeE, h0, hl, hg]
        have e2 : P.write k l = { P.did with waits := upd P.did.waits k (some (secOf l)) } := by simp [Pl.write, h0, hl, hg]
        have e3 : doE P = 0 := by simp [doE, hg]
        obtain ⟨e4, e5⟩ := did_waits P hg
        have HE5 := Lib.hid e5
        rw [e3] at HD
        obtain ⟨b, off, rfl, _, _⟩ := HB.out.at_lt (i := 0) (by omega)
        have HL := Lib.hid hl
        rw [e1, e2, hl]
        clear hH h0 hd h1 h2 hk hl hg e1 e2 e3 e4 e5
        go_enter Tryz.func29, Tryz.ntmps29
        go_wp2_with fail
        refine Calls.mono HC.out ?_
        rintro e w' ⟨rfl, rfl⟩
        go_wp2_with fail
        refine Calls.mono HD.out ?_
        rintro e w1 ⟨rfl, hP, hO⟩
        have hB1 := HB.out.only hO (HDis.out (List.ne_nil_of_length_pos (by have := HL.out; omega)))
        have hs := hB1.sec HL.out
        have his := hs.is
        have hac := hs.atC
        have c1 := hP.c1
        obtain ⟨w2, hmu, hm2, hg2⟩ := hP.drew.mp.store (t := 99) (e := 91) (N := P.did.n) Tryz.underlying99 hP.bound (by have := hP.ok.most; unfold maxLen; omega) (x := (k : Int)) (v := .agg (secC (secOf l))) (Wf.of (by omega) (by omega)) ⟨_, rfl⟩
        have h2 : PlateAt w2 q { P.did with waits := upd P.did.waits k (some (secOf l)) } := hP.drew.setMap hg2 (by rw [wmap_upd]; exact hm2) (fun j hj => by
          rw [upd_other _ _ (by have h1 := HKn.out; have h2 := HE5.out; omega)]
          exact hP.ok.waits j hj)
        have H2 := Lib.hid h2
        have HO2 := Lib.hid (hO.drew.trans (Only.of_grown hg2 q.inM))
        clear hP hO hB1 hs hm2 hg2 h2
        have hat := arrayAt88 w1.drew ⟨b, off, none⟩ cap
        go_wp2_with fail
        go_region
        go_wp2
        go_ret
        exact ⟨rfl, H2.out, HO2.out⟩
      · have e1 : P.writeE k l = 50 := by simp [Pl.writeE, h0, hl, hg]
        have e2 : P.write k l = P.did := by simp [Pl.write, h0, hl, hg]
        have e3 : doE P = 50 := by simp [doE, hg]
        rw [e3] at HD
        rw [e1, e2, hl]
        clear hH h0 hd h1 h2 hk hl hg e1 e2 e3
        go_enter Tryz.func29, Tryz.ntmps29
        go_wp2_with fail
        refine Calls.mono HC.out ?_
        rintro e w' ⟨rfl, rfl⟩
        go_wp2_with fail
        refine Calls.mono HD.out ?_
        rintro e w1 ⟨rfl, hP, hO⟩
        have HP := Lib.hid hP
        have HO := Lib.hid hO
        clear hP hO
        go_wp2
        go_ret
        exact ⟨rfl, HP.out, HO.out⟩
    · have e1 : P.writeE k l = 2 := by simp [Pl.writeE, h0, hl]
      have e2 : P.write k l = P := by simp [Pl.write, h0, hl]
      have hq : ((l.length : Int) != 64) = true := by simp; omega
      rw [e1, e2]
      obtain ⟨n, hn⟩ : ∃ n, n = l.length := ⟨_, rfl⟩
      rw [← hn] at hq ⊢
      clear hH h0 hd h1 h2 hk hl e1 e2 hn
      go_enter Tryz.func29, Tryz.ntmps29
      go_wp2_with fail
      refine Calls.mono HC.out ?_
      rintro e w' ⟨rfl, rfl⟩
      go_wp2
      go_ret
      exact ⟨rfl, H.out, Only.refl _ _⟩
  · have hq := has_nz h0
    have e1 : P.writeE i l = P.has i := by simp [Pl.writeE, h0]
    have e2 : P.write i l = P := by simp [Pl.write, h0]
    rw [e1, e2]
    obtain ⟨z, hz⟩ : ∃ z, z = P.has i := ⟨_, rfl⟩
    rw [← hz] at hH hq ⊢
    have HC := Lib.hid hH
    obtain ⟨n, hn⟩ : ∃ n, n = l.length := ⟨_, rfl⟩
    rw [← hn]
    clear hH h0 e1 e2 hz hn
    go_enter Tryz.func29, Tryz.ntmps29
    go_wp2_with fail
    refine Calls.mono HC.out ?_
    rintro e w' ⟨rfl, rfl⟩
    go_wp2
    go_ret
    exact ⟨rfl, H.out, Only.refl _ _⟩
end Go.Proofs.YtdhidcoglioalaaGreat.Walks
namespace Go.Proofs.YtdhidcoglioalaaGreat.Math

abbrev W := BitVec 64

def poly : W := 14514072000185962306#64

/-- One bit. -/
def sh1 (x : W) : W := (x >>> 1) ^^^ (poly &&& -(x &&& 1#64))

def shN : Nat → W → W
  | 0, x => x
  | n + 1, x => sh1 (shN n x)

def stp (s : W) (c : BitVec 8) : W := shN 8 (s ^^^ c.setWidth 64)

def addL (s : W) (l : List (BitVec 8)) : W := l.foldl stp s

def sumFrom (s : W) (l : List (BitVec 8)) : W := ~~~ (addL (~~~ s) l)
def sumOf (l : List (BitVec 8)) : W := sumFrom 0#64 l

/-! ### The lowest bit -/
theorem low_or (x : W) : x &&& 1#64 = 0#64 ∨ x &&& 1#64 = 1#64 := by
  have h : (x &&& 1#64).toNat = x.toNat % 2 := by
    rw [BitVec.toNat_and]
    show x.toNat &&& 1 = _
    rw [Nat.and_one_is_mod]
  have : x.toNat % 2 = 0 ∨ x.toNat % 2 = 1 := by omega
  rcases this with h1 | h1
  · left; apply BitVec.eq_of_toNat_eq; rw [h, h1]; rfl
  · right; apply BitVec.eq_of_toNat_eq; rw [h, h1]; rfl

theorem neg_low (a b : W) (ha : a = 0#64 ∨ a = 1#64) (hb : b = 0#64 ∨ b = 1#64) : poly &&& -(a ^^^ b) = (poly &&& -a) ^^^ (poly &&& -b) := by
  rcases ha with rfl | rfl <;> rcases hb with rfl | rfl <;> decide

theorem sh1_xor (a b : W) : sh1 (a ^^^ b) = sh1 a ^^^ sh1 b := by
  unfold sh1
  have h1 : (a ^^^ b) &&& 1#64 = (a &&& 1#64) ^^^ (b &&& 1#64) := by
    ext i hi; simp; cases a[i] <;> cases b[i] <;> simp
  rw [h1, neg_low _ _ (low_or a) (low_or b)]
  have h2 : (a ^^^ b) >>> 1 = (a >>> 1) ^^^ (b >>> 1) := by
    ext i hi; simp
  rw [h2]
  ext i hi
  simp only [BitVec.getElem_xor]
  generalize (a >>> 1)[i] = p
  generalize (b >>> 1)[i] = q
  generalize (poly &&& -(a &&& 1#64))[i] = r
  generalize (poly &&& -(b &&& 1#64))[i] = t
  cases p <;> cases q <;> cases r <;> cases t <;> rfl

theorem shN_xor (n : Nat) (a b : W) : shN n (a ^^^ b) = shN n a ^^^ shN n b := by
  induction n with
  | zero => rfl
  | succ n ih => show sh1 _ = sh1 _ ^^^ sh1 _; rw [ih, sh1_xor]

theorem sh1_zero : sh1 0#64 = 0#64 := by decide
theorem shN_zero (n : Nat) : shN n 0#64 = 0#64 := by
  induction n with
  | zero => rfl
  | succ n ih => show sh1 _ = _; rw [ih, sh1_zero]

theorem shN_add (n m : Nat) (x : W) : shN (n + m) x = shN m (shN n x) := by
  induction m with
  | zero => rfl
  | succ m ih => show sh1 (shN (n + m) x) = sh1 _; rw [ih]

theorem low_of_bit (x : W) (h : x.getLsbD 0 = false) : x &&& 1#64 = 0#64 := by
  rcases low_or x with e | e
  · exact e
  · exfalso
    have := congrArg (fun y : W => y.getLsbD 0) e
    simp at this
    simp [this] at h

theorem sh1_even (x : W) (h : x.getLsbD 0 = false) : sh1 x = x >>> 1 := by
  unfold sh1
  rw [low_of_bit x h]
  have : poly &&& -(0#64) = 0#64 := by decide
  rw [this, BitVec.xor_zero]

theorem shN_shift (n : Nat) (x : W) (h : ∀ i, i < n → x.getLsbD i = false) : shN n x = x >>> n := by
  induction n with
  | zero => simp [shN]
  | succ n ih =>
    show sh1 _ = _
    rw [ih (fun i hi => h i (by omega)), sh1_even _ (by simpa using h n (by omega)), BitVec.shiftRight_add]

theorem sh1_eq_zero (x : W) (h : sh1 x = 0#64) : x = 0#64 := by
  rcases low_or x with e | e
  · unfold sh1 at h
    rw [e, show poly &&& -(0#64) = 0#64 from by decide, BitVec.xor_zero] at h
    ext i hi
    by_cases h0 : i = 0
    · subst h0
      have := congrArg (fun y : W => y.getLsbD 0) e
      simpa using this
    · have := congrArg (fun y : W => y.getLsbD (i - 1)) h
      simp only [BitVec.getLsbD_ushiftRight, BitVec.getLsbD_zero] at this
      rw [show 1 + (i - 1) = i by omega] at this
      simpa [BitVec.getLsbD_eq_getElem hi] using this
  · exfalso
    unfold sh1 at h
    rw [e, show poly &&& -(1#64) = poly from by decide] at h
    have h2 := congrArg (fun y : W => y.getLsbD 63) h
    simp only [BitVec.getLsbD_xor, BitVec.getLsbD_ushiftRight, BitVec.getLsbD_zero] at h2
    rw [show poly.getLsbD 63 = true from by decide] at h2
    simp at h2

theorem shN_eq_zero (n : Nat) (x : W) (h : shN n x = 0#64) : x = 0#64 := by
  induction n with
  | zero => exact h
  | succ n ih => exact ih (sh1_eq_zero _ h)

theorem xor_eq_zero (a b : W) : a ^^^ b = 0#64 ↔ a = b := by
  constructor
  · intro h
    ext i hi
    have := congrArg (fun y : W => y.getLsbD i) h
    simp [BitVec.getLsbD_eq_getElem hi] at this
    exact this
  · rintro rfl; simp

theorem shN_inj (n : Nat) (x y : W) : shN n x = shN n y ↔ x = y := by
  constructor
  · intro h
    rw [← xor_eq_zero, ← shN_xor] at h
    rw [← xor_eq_zero]
    exact shN_eq_zero n _ h
  · rintro rfl; rfl

/-! ### P6.5, linearity -/
theorem stp_back (x y : W) (c : BitVec 8) : stp x c = stp y c ↔ x = y := by
  unfold stp
  rw [shN_inj]
  constructor
  · intro h
    have := congrArg (· ^^^ c.setWidth 64) h
    simpa [BitVec.xor_assoc] using this
  · rintro rfl; rfl

theorem stp_bytes (x : W) (c d : BitVec 8) : stp x c = stp x d ↔ c = d := by
  unfold stp
  rw [shN_inj]
  constructor
  · intro h
    have h1 := congrArg (x ^^^ ·) h
    simp only [← BitVec.xor_assoc, BitVec.xor_self, BitVec.zero_xor] at h1
    have h2 := congrArg (fun y : W => y.setWidth 8) h1
    simpa using h2
  · rintro rfl; rfl

theorem setWidth_xor (c d : BitVec 8) : (c ^^^ d).setWidth 64 = c.setWidth 64 ^^^ (d.setWidth 64 : W) := by
  ext i hi; simp

theorem xor4 (a b c d : W) : (a ^^^ b) ^^^ (c ^^^ d) = (a ^^^ c) ^^^ (b ^^^ d) := by
  ext i hi
  simp only [BitVec.getElem_xor]
  generalize a[i] = p; generalize b[i] = q; generalize c[i] = r; generalize d[i] = t
  cases p <;> cases q <;> cases r <;> cases t <;> rfl

theorem stp_xor (x y : W) (c d : BitVec 8) : stp (x ^^^ y) (c ^^^ d) = stp x c ^^^ stp y d := by
  unfold stp
  rw [← shN_xor, setWidth_xor, xor4]

/-! ### By halves of a byte -/
def lo (i : Nat) : W := shN 8 (BitVec.ofNat 64 i)
def hi (i : Nat) : W := shN 8 (BitVec.ofInt 64 ((i : Int) * 16))

theorem bytes_split : ∀ n : Fin 256, n.val = n.val % 16 ^^^ n.val / 16 * 16 := by decide +kernel

theorem split_byte (s : W) (c : BitVec 8) : s ^^^ c.setWidth 64 = ((s >>> 8) <<< 8) ^^^ BitVec.ofNat 64 ((s.setWidth 8 ^^^ c).toNat % 16) ^^^ BitVec.ofInt 64 (((s.setWidth 8 ^^^ c).toNat / 16 : Nat) * 16 : Int) := by
  generalize hy : s.setWidth 8 ^^^ c = y
  have h1 : s ^^^ c.setWidth 64 = ((s >>> 8) <<< 8) ^^^ y.setWidth 64 := by
    subst hy
    ext i hi
    simp only [BitVec.getElem_xor, BitVec.getElem_shiftLeft, BitVec.getElem_setWidth, BitVec.getLsbD_xor, BitVec.getLsbD_setWidth, BitVec.getElem_ushiftRight]
    by_cases h8 : i < 8
    · simp [h8, BitVec.getLsbD_eq_getElem hi]
    · have hc : c.getLsbD i = false := BitVec.getLsbD_of_ge _ _ (by omega)
      rw [show 8 + (i - 8) = i by omega]
      simp [h8, hc, BitVec.getLsbD_eq_getElem hi]
  rw [h1, BitVec.xor_assoc]
  congr 1
  have h2 : BitVec.ofInt 64 ((y.toNat / 16 : Nat) * 16 : Int) = BitVec.ofNat 64 (y.toNat / 16 * 16) := by
    rw [show (((y.toNat / 16 : Nat) * 16 : Int)) = ((y.toNat / 16 * 16 : Nat) : Int) by omega, BitVec.ofInt_natCast]
  rw [h2]
  apply BitVec.eq_of_toNat_eq
  have := y.isLt
  rw [BitVec.toNat_xor, BitVec.toNat_setWidth, BitVec.toNat_ofNat, BitVec.toNat_ofNat]
  have e1 : y.toNat % 2 ^ 64 = y.toNat := Nat.mod_eq_of_lt (by omega)
  have e2 : y.toNat % 16 % 2 ^ 64 = y.toNat % 16 := Nat.mod_eq_of_lt (by omega)
  have e3 : y.toNat / 16 * 16 % 2 ^ 64 = y.toNat / 16 * 16 := Nat.mod_eq_of_lt (by omega)
  rw [e1, e2, e3]
  exact bytes_split ⟨y.toNat, this⟩

theorem stp_halves (s : W) (c : BitVec 8) : stp s c = (s >>> 8) ^^^ lo ((s.setWidth 8 ^^^ c).toNat % 16) ^^^ hi ((s.setWidth 8 ^^^ c).toNat / 16) := by
  unfold stp lo hi
  rw [split_byte, shN_xor, shN_xor]
  congr 2
  rw [shN_shift 8 _ (fun i hi => by simp; omega)]
  ext i hi
  simp only [BitVec.getElem_ushiftRight, BitVec.getLsbD_shiftLeft, BitVec.getLsbD_ushiftRight]
  by_cases h : 8 + i < 64
  · simp [h, show ¬ (8 + i < 8) by omega]
  · simp [h]
    rw [BitVec.getLsbD_of_ge _ _ (by omega)]

/-! ### Bytes -/
theorem addL_xor (a : List (BitVec 8)) : ∀ (b : List (BitVec 8)) (s t : W), a.length = b.length → addL (s ^^^ t) (List.zipWith (· ^^^ ·) a b) = addL s a ^^^ addL t b := by
  induction a with
  | nil => intro b s t h; cases b with
    | nil => rfl
    | cons _ _ => simp at h
  | cons c a ih => intro b s t h; cases b with
    | nil => simp at h
    | cons d b =>
      simp only [List.zipWith_cons_cons, addL, List.foldl_cons]
      rw [stp_xor]
      exact ih b _ _ (by simpa using h)

theorem not_xor_not (a b : W) : ~~~a ^^^ ~~~b = a ^^^ b := by
  ext i hi; simp

theorem addL_append (s : W) (a b : List (BitVec 8)) : addL s (a ++ b) = addL (addL s a) b := by simp [addL]

theorem sum_pieces (a b : List (BitVec 8)) : sumFrom (sumOf a) b = sumOf (a ++ b) := by
  unfold sumOf sumFrom
  rw [BitVec.not_not, addL_append]

theorem sum_xor (a b : List (BitVec 8)) (h : a.length = b.length) : sumOf a ^^^ sumOf b = sumOf (List.zipWith (· ^^^ ·) a b) ^^^ sumOf (List.replicate a.length 0#8) := by
  unfold sumOf sumFrom
  rw [not_xor_not, not_xor_not, ← addL_xor a b _ _ h, ← addL_xor _ _ _ _ (by simp [h])]
  congr 1
  apply List.ext_getElem
  · simp [h]
  · intro i h1 h2; simp

/-! ### Bursts -/
def bitw (b : Bool) : W := if b then 1#64 else 0#64
/-- The state that takes the bits E k .. E (k + n - 1) in. -/
def R (s : W) (E : Nat → Bool) (k : Nat) : Nat → W
  | 0 => s
  | n + 1 => sh1 (R s E k n ^^^ bitw (E (k + n)))

theorem R_add (s : W) (E : Nat → Bool) (k n m : Nat) : R s E k (n + m) = R (R s E k n) E (k + n) m := by
  induction m with
  | zero => rfl
  | succ m ih => show sh1 (R s E k (n + m) ^^^ bitw (E (k + (n + m)))) = sh1 _; rw [ih, show k + (n + m) = k + n + m by omega]

theorem R_congr (s : W) (E F : Nat → Bool) (k l n : Nat) (h : ∀ i, i < n → E (k + i) = F (l + i)) : R s E k n = R s F l n := by
  induction n with
  | zero => rfl
  | succ n ih => show sh1 _ = sh1 _; rw [ih (fun i hi => h i (by omega)), h n (by omega)]

theorem R_none (s : W) (E : Nat → Bool) (k n : Nat) (h : ∀ i, i < n → E (k + i) = false) : R s E k n = shN n s := by
  induction n with
  | zero => rfl
  | succ n ih =>
    show sh1 _ = sh1 _
    rw [ih (fun i hi => h i (by omega)), h n (by omega)]
    simp [bitw]

theorem R_pack (s : W) (E : Nat → Bool) (k n : Nat) (hn : n ≤ 64) (e : W) (he : ∀ i, i < 64 → e.getLsbD i = (decide (i < n) && E (k + i))) : R s E k n = shN n (s ^^^ e) := by
  induction n generalizing e with
  | zero =>
    have : e = 0#64 := by
      apply BitVec.eq_of_getLsbD_eq
      intro i hi; rw [he i hi]; simp
    subst this
    simp [R, shN]
  | succ n ih =>
    have h1 := ih (by omega) (e ^^^ (bitw (E (k + n)) <<< n)) (fun i hi => by
      rw [BitVec.getLsbD_xor, he i hi, BitVec.getLsbD_shiftLeft]
      by_cases h : i < n
      · simp [h, show i < n + 1 by omega]
      · by_cases h' : i = n
        · subst h'
          cases hE : E (k + i) <;> simp [bitw, hi]
        · have : 0 < i - n := by omega
          cases hE : E (k + n) <;> simp [bitw, h, hi, show ¬ i < n + 1 by omega]
          intro _; omega)
    show sh1 _ = sh1 _
    rw [h1]
    congr 1
    rw [shN_xor n s (e ^^^ _), shN_xor n s e, shN_xor n e]
    have h2 : shN n (bitw (E (k + n)) <<< n) = bitw (E (k + n)) := by
      rw [shN_shift n _ (fun i hi => by simp [hi])]
      cases E (k + n)
      · simp [bitw]
      · apply BitVec.eq_of_getLsbD_eq
        intro i hi
        simp only [bitw, if_true, BitVec.getLsbD_ushiftRight, BitVec.getLsbD_shiftLeft]
        by_cases h0 : i = 0
        · subst h0; simp; omega
        · simp [h0]
    rw [h2, BitVec.xor_assoc, BitVec.xor_assoc, BitVec.xor_self, BitVec.xor_zero]

/-- Bit k of bytes, the lowest of a byte first. -/
def bitAt (l : List (BitVec 8)) (k : Nat) : Bool := (l.getD (k / 8) 0#8).getLsbD (k % 8)

theorem stp_R (s : W) (c : BitVec 8) (l : List (BitVec 8)) : R s (bitAt (c :: l)) 0 8 = stp s c := by
  rw [R_pack s _ 0 8 (by omega) (c.setWidth 64)]
  · rfl
  · intro i hi
    by_cases h : i < 8
    · have h1 : i / 8 = 0 := by omega
      have h2 : i % 8 = i := by omega
      simp [bitAt, h1, h2, h, hi]
    · simp [h, hi]
      exact BitVec.getLsbD_of_ge _ _ (by omega)

theorem addL_R (l : List (BitVec 8)) : ∀ s, addL s l = R s (bitAt l) 0 (8 * l.length) := by
  induction l with
  | nil => intro s; rfl
  | cons c l ih =>
    intro s
    rw [List.length_cons, show 8 * (l.length + 1) = 8 + 8 * l.length by omega, R_add, stp_R]
    show addL (stp s c) l = _
    rw [ih]
    apply R_congr
    intro i hi
    have h1 : (0 + 8 + i) / 8 = i / 8 + 1 := by omega
    have h2 : (0 + 8 + i) % 8 = (0 + i) % 8 := by omega
    simp [bitAt, h1, h2]

theorem pack_ex (f : Nat → Bool) (n : Nat) (hn : n ≤ 64) : ∃ e : W, ∀ i, i < 64 → e.getLsbD i = (decide (i < n) && f i) := by
  induction n with
  | zero => exact ⟨0#64, fun i _ => by simp⟩
  | succ n ih =>
    obtain ⟨e, he⟩ := ih (by omega)
    refine ⟨e ||| (bitw (f n) <<< n), fun i hi => ?_⟩
    rw [BitVec.getLsbD_or, he i hi, BitVec.getLsbD_shiftLeft]
    by_cases h : i < n
    · simp [h, show i < n + 1 by omega]
    · by_cases h' : i = n
      · subst h'
        cases hE : f i <;> simp [bitw, hi]
      · cases hE : f n <;> simp [bitw, h, hi, show ¬ i < n + 1 by omega]
        omega

/-- Some bits are turned, all within 64: the state is another one. -/
theorem burst (E : Nat → Bool) (N at_ : Nat) (hat : at_ ≤ N) (hE : ∀ i, E i = true → at_ ≤ i ∧ i < at_ + 64) : R 0#64 E 0 N = 0#64 ↔ ∀ i, i < N → E i = false := by
  constructor
  · intro h i hi
    have hsplit : N = at_ + ((min 64 (N - at_)) + (N - at_ - min 64 (N - at_))) := by omega
    rw [hsplit, R_add, R_none 0#64 E 0 at_ (fun j hj => by
      cases hEj : E (0 + j) with
      | false => rfl
      | true => have := hE _ hEj; omega), shN_zero, R_add] at h
    rw [R_none _ E _ (N - at_ - min 64 (N - at_)) (fun j hj => by
      cases hEj : E (0 + at_ + min 64 (N - at_) + j) with
      | false => rfl
      | true => have := hE _ hEj; omega)] at h
    have h1 := shN_eq_zero _ _ h
    obtain ⟨e, he⟩ := pack_ex (fun j => E (0 + at_ + j)) (min 64 (N - at_)) (by omega)
    rw [R_pack _ E _ _ (by omega) e he] at h1
    have h2 := shN_eq_zero _ _ h1
    rw [BitVec.zero_xor] at h2
    cases hEi : E i with
    | false => rfl
    | true =>
      have hr := hE _ hEi
      have := he (i - at_) (by omega)
      rw [h2] at this
      have hlt : i - at_ < min 64 (N - at_) := by omega
      rw [show 0 + at_ + (i - at_) = i by omega, hEi, decide_eq_true hlt] at this
      simp at this
  · intro h
    rw [R_none 0#64 E 0 N (fun i hi => by simpa using h i hi), shN_zero]

/-! ### Turning bits -/
/-- b with the bits at .. at + n - 1 turned as 'bits' says. -/
def flips (b : List (BitVec 8)) (at_ : Nat) (bits : W) : Nat → List (BitVec 8)
  | 0 => b
  | n + 1 => if bits.getLsbD n && decide (at_ + n < 8 * b.length) then
      (flips b at_ bits n).set ((at_ + n) / 8) ((flips b at_ bits n).getD ((at_ + n) / 8) 0#8 ^^^ (1#8 <<< ((at_ + n) % 8)))
    else flips b at_ bits n

def turned (len : Nat) (at_ : Nat) (bits : W) : Nat → Bool
  | 0 => false
  | n + 1 => turned len at_ bits n || (bits.getLsbD n && decide (at_ + n < 8 * len))

theorem flips_length (b : List (BitVec 8)) (at_ : Nat) (bits : W) (n : Nat) : (flips b at_ bits n).length = b.length := by
  induction n with
  | zero => rfl
  | succ n ih => unfold flips; split <;> simp [ih]

theorem bitAt_set (l : List (BitVec 8)) (k p : Nat) (hk : k < 8 * l.length) : bitAt (l.set (k / 8) (l.getD (k / 8) 0#8 ^^^ (1#8 <<< (k % 8)))) p = (bitAt l p ^^ decide (p = k)) := by
  unfold bitAt
  have hkl : k / 8 < l.length := by omega
  by_cases h : p / 8 = k / 8
  · rw [h]
    simp only [List.getD_eq_getElem?_getD, List.getElem?_set_self hkl, Option.getD_some, BitVec.getLsbD_xor]
    congr 1
    have hp : p % 8 < 8 := by omega
    have hk8 : k % 8 < 8 := by omega
    simp only [BitVec.getLsbD_shiftLeft, hp, decide_true, Bool.true_and]
    by_cases e : p = k
    · subst e; simp
    · have hne : p % 8 ≠ k % 8 := by omega
      by_cases hlt : p % 8 < k % 8
      · simp [hlt, e]
      · have : p % 8 - k % 8 ≠ 0 := by omega
        simp [hlt, e, this]
  · have e : p ≠ k := by rintro rfl; exact h rfl
    simp only [List.getD_eq_getElem?_getD]
    rw [List.getElem?_set_ne (by omega)]
    simp [e]

theorem bitAt_flips (b : List (BitVec 8)) (at_ : Nat) (bits : W) (n p : Nat) : bitAt (flips b at_ bits n) p = (bitAt b p ^^ (decide (at_ ≤ p ∧ p < at_ + n ∧ p < 8 * b.length) && bits.getLsbD (p - at_))) := by
  induction n with
  | zero =>
    have : ¬ (at_ ≤ p ∧ p < at_ + 0 ∧ p < 8 * b.length) := by omega
    rw [decide_eq_false this]
    simp [flips]
  | succ n ih =>
    unfold flips
    split
    · rename_i h
      simp only [Bool.and_eq_true, decide_eq_true_eq] at h
      rw [bitAt_set _ _ _ (by rw [flips_length]; omega), ih]
      by_cases e : p = at_ + n
      · subst e
        simp [h.1, h.2]
      · have : (at_ ≤ p ∧ p < at_ + n ∧ p < 8 * b.length) ↔ (at_ ≤ p ∧ p < at_ + (n + 1) ∧ p < 8 * b.length) := by omega
        simp [e, this]
    · rename_i h
      rw [ih]
      by_cases e : p = at_ + n
      · subst e
        simp only [Bool.and_eq_true, decide_eq_true_eq, not_and] at h
        cases hb : bits.getLsbD n
        · simp [hb]
        · have := h hb
          simp [this]
      · have : (at_ ≤ p ∧ p < at_ + n ∧ p < 8 * b.length) ↔ (at_ ≤ p ∧ p < at_ + (n + 1) ∧ p < 8 * b.length) := by omega
        simp [this]

theorem turned_iff (len at_ : Nat) (bits : W) (n : Nat) : turned len at_ bits n = true ↔ ∃ j, j < n ∧ bits.getLsbD j = true ∧ at_ + j < 8 * len := by
  induction n with
  | zero => simp [turned]
  | succ n ih =>
    simp only [turned, Bool.or_eq_true, ih, Bool.and_eq_true, decide_eq_true_eq]
    constructor
    · rintro (⟨j, h1, h2, h3⟩ | ⟨h2, h3⟩)
      · exact ⟨j, by omega, h2, h3⟩
      · exact ⟨n, by omega, h2, h3⟩
    · rintro ⟨j, h1, h2, h3⟩
      by_cases e : j = n
      · subst e; exact .inr ⟨h2, h3⟩
      · exact .inl ⟨j, by omega, h2, h3⟩

theorem bitAt_zip (a b : List (BitVec 8)) (h : a.length = b.length) (p : Nat) : bitAt (List.zipWith (· ^^^ ·) a b) p = (bitAt a p ^^ bitAt b p) := by
  unfold bitAt
  simp only [List.getD_eq_getElem?_getD, List.getElem?_zipWith]
  by_cases hp : p / 8 < a.length
  · rw [List.getElem?_eq_getElem hp, List.getElem?_eq_getElem (h ▸ hp)]
    simp
  · rw [List.getElem?_eq_none (by omega), List.getElem?_eq_none (by omega)]
    simp

theorem sum_turned (b : List (BitVec 8)) (at_ : Nat) (hat : at_ ≤ 8 * b.length) (bits : W) : (sumOf b ≠ sumOf (flips b at_ bits 64)) ↔ turned b.length at_ bits 64 = true := by
  have hl := flips_length b at_ bits 64
  have h1 : sumOf b = sumOf (flips b at_ bits 64) ↔ R 0#64 (bitAt (List.zipWith (· ^^^ ·) b (flips b at_ bits 64))) 0 (8 * b.length) = 0#64 := by
    rw [← xor_eq_zero]
    unfold sumOf sumFrom
    rw [not_xor_not, ← addL_xor _ _ _ _ hl.symm, addL_R]
    simp [hl]
  have hE : ∀ p, bitAt (List.zipWith (· ^^^ ·) b (flips b at_ bits 64)) p = (decide (at_ ≤ p ∧ p < at_ + 64 ∧ p < 8 * b.length) && bits.getLsbD (p - at_)) := by
    intro p
    rw [bitAt_zip _ _ hl.symm, bitAt_flips]
    generalize (decide (at_ ≤ p ∧ p < at_ + 64 ∧ p < 8 * b.length) && bits.getLsbD (p - at_)) = q
    cases bitAt b p <;> cases q <;> rfl
  rw [Ne, h1, burst _ _ at_ hat (fun i hi => by rw [hE] at hi; simp at hi; omega), turned_iff]
  constructor
  · intro h
    apply Classical.byContradiction
    intro hn
    apply h
    intro i hi
    rw [hE]
    cases hb : bits.getLsbD (i - at_) with
    | false => simp
    | true =>
      simp only [Bool.and_true, decide_eq_false_iff_not]
      rintro ⟨g1, g2, g3⟩
      exact hn ⟨i - at_, by omega, hb, by omega⟩
  · rintro ⟨j, g1, g2, g3⟩ h
    have := h (at_ + j) g3
    rw [hE] at this
    simp [g2, g3] at this
    omega

end Go.Proofs.YtdhidcoglioalaaGreat.Math
