/-
  Puts that are played, in plain words.
-/
import Derived.Test.YtdhidcoglioalaaPlOpen
namespace Go.Proofs.Ytdhidcoglioalaa.Walks
open Go.RowKit Plain
set_option linter.unusedVariables false

abbrev By8 := Nat → Byte
def stepW (s : By8 × By8) (x : PutL) : By8 × By8 := if x.2.2 then (s.2, s.2) else (s.1, upd s.2 (x.1 % 8).toNat x.2.1)
/-- What each sector was at the last flush, and what it is. -/
def wasis (l : List PutL) : By8 × By8 := l.foldl stepW (fun _ => 0, fun _ => 0)
theorem wasis_take {l : List PutL} {j : Nat} (h : j < l.length) : wasis (l.take (j + 1)) = stepW (wasis (l.take j)) l[j] := by
  unfold wasis
  rw [List.take_succ_eq_append_getElem h, List.foldl_append]
  rfl
structure PInv (P : Pl) (f g : By8) : Prop where
  n : P.n = 8
  live : P.dead = false
  sure : P.fails = false
  keep : P.keep = []
  st : ∀ i, i < 8 → secL (P.stays i) = secL (oneS (f i))
  sn : ∀ i, i < 8 → secL (P.seen i) = secL (oneS (g i))
theorem pinv_made : PInv (Pl.made 8) (fun _ => 0) (fun _ => 0) := ⟨rfl, rfl, rfl, rfl, fun i _ => rfl, fun i _ => rfl⟩
theorem PInv.has0 {P : Pl} {f g : By8} (h : PInv P f g) {k : Nat} (hk : k < 8) : P.has k = 0 := by
  unfold Pl.has
  rw [h.live, if_neg (by simp), if_neg (by rw [h.n]; omega)]
theorem PInv.goes0 {P : Pl} {f g : By8} (h : PInv P f g) : P.goes = false ∧ P.did = P := by
  constructor
  · unfold Pl.goes
    rw [h.sure]
    rfl
  · unfold Pl.did
    rw [if_neg (by rw [h.sure]; simp)]
theorem PInv.write {P : Pl} {f g : By8} (h : PInv P f g) {k : Nat} (hk : k < 8) (b : Byte) : P.writeE k (bytesOf (oneS b)) = 0 ∧ PInv (P.write k (bytesOf (oneS b))) f (upd g k b) := by
  have h0 := h.has0 hk
  have hl := bytesOf_length (oneS b)
  obtain ⟨hg, hd⟩ := h.goes0
  constructor
  · unfold Pl.writeE
    rw [if_neg (by rw [h0]; simp), if_neg (by rw [hl]; simp), hg]
    rfl
  · have e : P.write k (bytesOf (oneS b)) = { P with waits := upd P.waits k (some (secOf (bytesOf (oneS b)))) } := by
      unfold Pl.write
      rw [if_neg (by rw [h0]; simp), if_neg (by rw [hl]; simp), hg, hd]
      rfl
    rw [e]
    refine ⟨h.n, h.live, h.sure, h.keep, h.st, fun i hi => ?_⟩
    show secL ((upd P.waits k (some (secOf (bytesOf (oneS b)))) i).getD (P.stays i)) = secL (oneS (upd g k b i))
    by_cases hik : i = k
    · rw [hik, upd_same, upd_same]
      exact secOf_bytes _
    · rw [upd_other _ _ hik, upd_other _ _ hik]
      exact h.sn i hi
theorem PInv.flush {P : Pl} {f g : By8} (h : PInv P f g) : P.flushE = 0 ∧ PInv P.flush g g := by
  obtain ⟨hg, hd⟩ := h.goes0
  constructor
  · unfold Pl.flushE
    rw [if_neg (by rw [h.live]; simp), hg]
    rfl
  · have e : P.flush = P.settled := by
      unfold Pl.flush
      rw [if_neg (by rw [h.live]; simp), hg, hd]
      rfl
    rw [e]
    exact ⟨h.n, h.live, h.sure, h.keep, h.sn, h.sn⟩
theorem bytes_of_sec {s s' : Sec} (h : secL s = secL s') : bytesOf s = bytesOf s' := by
  unfold bytesOf
  exact List.map_congr_left fun j hj => secL_inj h j (List.mem_range.1 hj)
/-- Behind a fall. -/
theorem PInv.crash {P : Pl} {f g : By8} (h : PInv P f g) (keep : List Bool) : P.crash keep = P.gone keep := by
  unfold Pl.crash
  rw [if_neg (by rw [h.live]; simp)]
theorem hasB_sec {P : Pl} {k : Nat} {b : Byte} (h0 : P.has k = 0) (hs : secL (P.seen k) = secL (oneS b)) : hasB P k b = true := by
  unfold hasB
  rw [decide_eq_true h0, Bool.true_and]
  exact decide_eq_true (bytes_of_sec hs)
theorem fall_has {P : Pl} (hn : P.n = 8) (keep : List Bool) {k : Nat} (hk : k < 8) : (P.gone keep).boot.has k = 0 := by
  unfold Pl.has
  show (if (false = true) then 50 else if (k : Int) < 0 ∨ (P.n : Int) ≤ k then 9 else 0) = (0 : Int)
  rw [if_neg (by simp), if_neg (by omega)]
theorem fall_seen (P : Pl) (keep : List Bool) (k : Nat) : (P.gone keep).boot.seen k = P.goneAt keep k := rfl
/-- Either as it was or as it is. -/
theorem PInv.fall {P : Pl} {f g : By8} (h : PInv P f g) (keep : List Bool) {k : Nat} (hk : k < 8) : hasB (P.gone keep).boot k (f k) = true ∨ hasB (P.gone keep).boot k (g k) = true := by
  have h0 := fall_has h.n keep hk
  have hsn := h.sn k hk
  unfold Pl.seen at hsn
  have e : P.goneAt keep k = P.stays k ∨ secL (P.goneAt keep k) = secL (oneS (g k)) := by
    unfold Pl.goneAt
    cases hw : P.waits k with
    | none => exact .inl rfl
    | some x =>
      rw [hw] at hsn
      by_cases hr : keep.getD (P.rank k) false = true
      · exact .inr (by show secL (if keep.getD (P.rank k) false = true then x else P.stays k) = _; rw [if_pos hr]; exact hsn)
      · exact .inl (if_neg hr)
  rcases e with e | e
  · exact .inl (hasB_sec h0 (by rw [fall_seen, e]; exact h.st k hk))
  · exact .inr (hasB_sec h0 (by rw [fall_seen]; exact e))
/-- What waits stays if it is told. -/
theorem PInv.told {P : Pl} {f g : By8} (h : PInv P f g) (hok : P.Ok) (keep : List Bool) {j : Nat} (hj : j < P.ws.length) :
    P.ws[j] < 8 ∧ hasB (P.gone keep).boot (P.ws[j] : Nat) (if keep.getD j false then g P.ws[j] else f P.ws[j]) = true := by
  obtain ⟨h1, h2, h3⟩ := Pl.ws_at P hj
  rw [h.n] at h3
  refine ⟨h3, hasB_sec (fall_has h.n keep h3) ?_⟩
  rw [fall_seen]
  unfold Pl.goneAt
  obtain ⟨x, hx⟩ := Option.isSome_iff_exists.1 h2
  have hsn := h.sn _ h3
  unfold Pl.seen at hsn
  rw [hx] at hsn
  rw [hx, h1]
  by_cases hr : keep.getD j false = true
  · simp only [if_pos hr]; exact hsn
  · simp only [if_neg hr]; exact h.st _ h3
theorem getD_true (m r : Nat) (h : r < m) : (List.replicate m true).getD r false = true := by
  simp [List.getD_eq_getElem?_getD, h]
theorem rank_le (P : Pl) (k : Nat) : P.rank k ≤ k := by
  unfold Pl.rank
  have := List.length_filter_le (fun j => (P.waits j).isSome) (List.range k)
  rwa [List.length_range] at this
theorem PInv.fallAll {P : Pl} {f g : By8} (h : PInv P f g) {k : Nat} (hk : k < 8) : hasB (P.gone [true, true, true, true, true, true, true, true]).boot k (g k) = true := by
  refine hasB_sec (fall_has h.n _ hk) ?_
  rw [fall_seen]
  unfold Pl.goneAt
  have hsn := h.sn k hk
  unfold Pl.seen at hsn
  cases hw : P.waits k with
  | none => rw [hw] at hsn; exact hsn
  | some x =>
    rw [hw] at hsn
    have hr := rank_le P k
    have e : ([true, true, true, true, true, true, true, true] : List Bool).getD (P.rank k) false = true := getD_true 8 (P.rank k) (by omega)
    simp only [e, if_true]
    exact hsn
theorem PInv.fallNone {P : Pl} {f g : By8} (h : PInv P f g) {k : Nat} (hk : k < 8) : hasB (P.gone []).boot k (f k) = true := by
  refine hasB_sec (fall_has h.n _ hk) ?_
  rw [fall_seen]
  unfold Pl.goneAt
  cases hw : P.waits k with
  | none => exact h.st k hk
  | some x => exact h.st k hk
end Go.Proofs.Ytdhidcoglioalaa.Walks
