/-
  Plain: what the walk of Orbits does. The walk of slices.Repeat at ints. The walk of Orbits. The walks of sizes and of numbers. The walk of like.
-/
import Derived.Test.YteibbnmlmbhkpaaDoorOSame
import Derived.Test.YteibbnmlmbhkpaaDoorBW8
import Derived.Shelf.Bits.Mul64
import Derived.Laws.IdiomCopy
import Derived.Lib.SlBuf
import Derived.Test.YteibbnmlmbhkpaaDoorLawP1
namespace Go.Proofs.YteibbnmlmbhkpaaDoor
set_option linter.unusedVariables false
set_option linter.unusedSimpArgs false
set_option maxHeartbeats 1000000

def OrbC (p : List ByteArray) (g : Gd) (c d : Nat) : Prop := Orb p ((c / g.D : Nat) : Int) ((c % g.D : Nat) : Int) ((d / g.D : Nat) : Int) ((d % g.D : Nat) : Int)
/-- The number of the cell of an index. -/
def nmI (p : List ByteArray) (g : Gd) (i : Nat) : Nat := num g (cX p i) (cY p i)
theorem nmI_lt {p : List ByteArray} {g : Gd} (hg : IsLat p g) (i : Nat) : nmI p g i < g.A * g.D := num_lt hg.a1 hg.d1 _ _
theorem orb_red {p : List ByteArray} {g : Gd} (hp : PatOk p) (hg : IsLat p g) (x y : Int) : Orb p x y ((num g x y / g.D : Nat) : Int) ((num g x y % g.D : Nat) : Int) := by
  rw [(num_cell hg.a1 hg.d1 x y).1, (num_cell hg.a1 hg.d1 x y).2]
  have h := Orb.sy (red_sy hp hg x y) x y
  rw [show x + (redX g x - x) = redX g x by omega, show y + (redY g x y - y) = redY g x y by omega] at h
  exact h
/-- What the symmetries of the list come to, from a cell. -/
def Hit (g : Gd) (l : List Mv) (x y : Int) (c : Nat) : Prop := ∃ m ∈ l, num g (m.toX x y) (m.toY x y) = c
theorem hit_iff {p : List ByteArray} {g : Gd} (hp : PatOk p) (hg : IsLat p g) {x y : Int} (hx : 0 ≤ x ∧ x ≤ 6) (hy : 0 ≤ y ∧ y ≤ 6) {c : Nat} (hc : c < g.A * g.D) : Hit g (symL p g) x y c ↔ Orb p x y ((c / g.D : Nat) : Int) ((c % g.D : Nat) : Int) := by
  have h6 := hg.a6 hp
  constructor
  · rintro ⟨m, hm, h⟩
    obtain ⟨k, e, f, hk, he, hf, rfl, hs⟩ := (mem_symL hp hg m).1 hm
    rw [knd_toX hk _ _ _ _ (by omega) (by omega) (by omega), knd_toY hk _ _ _ _ (by omega) (by omega) (by omega)] at h
    rw [← h]
    exact Orb.trans ⟨k, e, f, hk, hs, rfl, rfl⟩ (orb_red hp hg _ _)
  · rintro ⟨k, e, f, hk, hs, e1, e2⟩
    obtain ⟨r, s, hr, hss, h1, h2⟩ := hs.class hp hg hk
    refine ⟨knd k r s, (mem_symL hp hg _).2 ⟨k, r, s, hk, hr, hss, rfl, h1⟩, ?_⟩
    rw [knd_toX hk _ _ _ _ (by omega) (by omega) (by omega), knd_toY hk _ _ _ _ (by omega) (by omega) (by omega)]
    rw [← num_of hg.a1 hg.d1 hc, ← e1, ← e2]
    refine num_same hp hg ?_
    have h3 := h2.neg0
    rw [show lX k x y + (r : Int) - (lX k x y + e) = -(e - r) by omega, show lY k x y + (s : Int) - (lY k x y + f) = -(f - s) by omega]
    exact h3
theorem hit_small {p : List ByteArray} {g : Gd} (hp : PatOk p) (hg : IsLat p g) {x y : Int} (hx : 0 ≤ x ∧ x ≤ 6) (hy : 0 ≤ y ∧ y ≤ 6) {m : Mv} (hm : m ∈ symL p g) : (-1000 ≤ m.toX x y ∧ m.toX x y ≤ 1000) ∧ (-1000 ≤ m.toY x y ∧ m.toY x y ≤ 1000) := by
  have h6 := hg.a6 hp
  obtain ⟨k, e, f, hk, he, hf, rfl, hs⟩ := (mem_symL hp hg m).1 hm
  rw [knd_toX hk _ _ _ _ (by omega) (by omega) (by omega), knd_toY hk _ _ _ _ (by omega) (by omega) (by omega)]
  have := lXY_small (k := k) hx hy
  omega
theorem OrbC.of {p : List ByteArray} {g : Gd} (hp : PatOk p) (hg : IsLat p g) {x y : Int} {d : Nat} : OrbC p g (num g x y) d ↔ Orb p x y ((d / g.D : Nat) : Int) ((d % g.D : Nat) : Int) :=
  ⟨fun h => (orb_red hp hg x y).trans h, fun h => (orb_red hp hg x y).symm.trans h⟩
/-- The labels when i cells are done. -/
structure OInv (p : List ByteArray) (g : Gd) (f : Nat → Int) (i n : Nat) : Prop where
  rng : ∀ c, c < g.A * g.D → -1 ≤ f c ∧ f c < n
  don : ∀ i', i' < i → 0 ≤ f (nmI p g i')
  iff : ∀ c d, c < g.A * g.D → d < g.A * g.D → 0 ≤ f c → (f c = f d ↔ OrbC p g c d)
  on : ∀ s : Nat, s < n → ∃ i', i' < i ∧ f (nmI p g i') = s
theorem OInv.start (p : List ByteArray) (g : Gd) : OInv p g (fun _ => -1) 0 0 :=
  ⟨fun _ _ => ⟨Int.le_refl _, by show (-1 : Int) < 0; omega⟩, fun i' h => absurd h (Nat.not_lt_zero _), fun c d _ _ h => absurd h (by show ¬ (0 : Int) ≤ -1; omega), fun s h => absurd h (Nat.not_lt_zero _)⟩
theorem OInv.old {p : List ByteArray} {g : Gd} {f : Nat → Int} {i n : Nat} (h : OInv p g f i n) (ho : 0 ≤ f (nmI p g i)) : OInv p g f (i + 1) n :=
  ⟨h.rng, fun i' hi => by
    by_cases hc : i' = i
    · rw [hc]; exact ho
    · exact h.don i' (by omega), h.iff, fun s hs => by
    obtain ⟨i', h1, h2⟩ := h.on s hs
    exact ⟨i', by omega, h2⟩⟩
theorem OInv.new {p : List ByteArray} {g : Gd} {f f' : Nat → Int} {i n : Nat} (hp : PatOk p) (hg : IsLat p g) (h : OInv p g f i n) (ho : f (nmI p g i) < 0)
    (h1 : ∀ c, c < g.A * g.D → OrbC p g (nmI p g i) c → f' c = n) (h2 : ∀ c, c < g.A * g.D → ¬ OrbC p g (nmI p g i) c → f' c = f c) : OInv p g f' (i + 1) (n + 1) ∧ ∀ i', i' < i → f' (nmI p g i') = f (nmI p g i') := by
  have hlt := fun i => nmI_lt hg i
  have hself : OrbC p g (nmI p g i) (nmI p g i) := Orb.refl _ _ _
  have hkeep : ∀ c, c < g.A * g.D → 0 ≤ f c → ¬ OrbC p g (nmI p g i) c := fun c hc hf ho' => by
    have := (h.iff c (nmI p g i) hc (hlt i) hf).2 (Orb.symm ho')
    omega
  have hk2 : ∀ c, c < g.A * g.D → 0 ≤ f c → f' c = f c := fun c hc hf => h2 c hc (hkeep c hc hf)
  refine ⟨⟨fun c hc => ?_, fun i' hi => ?_, fun c d hc hd hf => ?_, fun s hs => ?_⟩, fun i' hi => hk2 _ (hlt i') (h.don i' hi)⟩
  · by_cases hO : OrbC p g (nmI p g i) c
    · rw [h1 c hc hO]; omega
    · rw [h2 c hc hO]; have := h.rng c hc; omega
  · by_cases hc : i' = i
    · rw [hc, h1 _ (hlt i) hself]; omega
    · have := h.don i' (by omega)
      rw [hk2 _ (hlt i') this]; exact this
  · by_cases hO : OrbC p g (nmI p g i) c
    · rw [h1 c hc hO]
      by_cases hO' : OrbC p g (nmI p g i) d
      · rw [h1 d hd hO']
        exact ⟨fun _ => (Orb.symm hO).trans hO', fun _ => rfl⟩
      · rw [h2 d hd hO']
        constructor
        · intro he; have := h.rng d hd; omega
        · intro hcd; exact absurd (Orb.trans hO hcd) hO'
    · have hf' := hf
      rw [h2 c hc hO] at hf' ⊢
      by_cases hO' : OrbC p g (nmI p g i) d
      · rw [h1 d hd hO']
        constructor
        · intro he; have := h.rng c hc; omega
        · intro hcd; exact absurd (Orb.trans hO' (Orb.symm hcd)) hO
      · rw [h2 d hd hO']
        exact h.iff c d hc hd hf'
  · by_cases hsn : s = n
    · exact ⟨i, by omega, by rw [h1 _ (hlt i) hself, hsn]⟩
    · obtain ⟨i', h3, h4⟩ := h.on s (by omega)
      refine ⟨i', by omega, ?_⟩
      rw [hk2 _ (hlt i') (by rw [h4]; omega), h4]
theorem OInv.le {p : List ByteArray} {g : Gd} {f : Nat → Int} {i n : Nat} (h : OInv p g f i n) : n ≤ i := by
  obtain ⟨r, hr⟩ : ∃ r : Nat → Nat, ∀ s : Nat, s < n → r s < i ∧ f (nmI p g (r s)) = s := by
    have : ∀ s : Nat, ∃ j, s < n → j < i ∧ f (nmI p g j) = s := fun s => by
      by_cases hs : s < n
      · obtain ⟨j, h1, h2⟩ := h.on s hs; exact ⟨j, fun _ => ⟨h1, h2⟩⟩
      · exact ⟨0, fun h => absurd h hs⟩
    exact Classical.axiomOfChoice this
  have h1 : ((List.range n).map r).Nodup := map_nodup List.nodup_range fun x hx y hy he => by
    rw [List.mem_range] at hx hy
    have e1 := (hr x hx).2
    have e2 := (hr y hy).2
    rw [he, e2] at e1
    omega
  have h2 := List.Nodup.length_le_of_subset (l₂ := List.range i) h1 fun y hy => by
    obtain ⟨t, ht, rfl⟩ := List.mem_map.1 hy
    exact List.mem_range.2 (hr t (List.mem_range.1 ht)).1
  simpa using h2
theorem OInv.lab {p : List ByteArray} {g : Gd} {f : Nat → Int} {n : Nat} (hp : PatOk p) (hg : IsLat p g) (h : OInv p g f (wd p * p.length) n) : Lab p (fun i => (f (nmI p g i)).toNat) n := by
  refine ⟨fun i hi => ?_, fun s hs => ?_, fun i j hi hj => ?_⟩
  · have h1 := h.don i hi
    have h2 := (h.rng _ (nmI_lt hg i)).2
    show (f (nmI p g i)).toNat < n
    omega
  · obtain ⟨i, h1, h2⟩ := h.on s hs
    exact ⟨i, h1, by show (f (nmI p g i)).toNat = s; rw [h2]; rfl⟩
  · show (f (nmI p g i)).toNat = (f (nmI p g j)).toNat ↔ _
    have h1 := h.don i hi
    have h2 := h.don j hj
    rw [show ((f (nmI p g i)).toNat = (f (nmI p g j)).toNat) ↔ f (nmI p g i) = f (nmI p g j) by omega, h.iff _ _ (nmI_lt hg i) (nmI_lt hg j) h1]
    unfold nmI
    rw [OrbC.of hp hg]
    exact ⟨fun h => h.trans (orb_red hp hg _ _).symm, fun h => h.trans (orb_red hp hg _ _)⟩
/-- The rows of labels. -/
def labRow (p : List ByteArray) (g : Gd) (f : Nat → Int) (y x : Nat) : List Int := (List.range x).map fun x' => f (nmI p g (y * wd p + x'))
def labRows (p : List ByteArray) (g : Gd) (f : Nat → Int) (y : Nat) : List (List Int) := (List.range y).map fun y' => labRow p g f y' (wd p)
theorem labRow_len (p : List ByteArray) (g : Gd) (f : Nat → Int) (y x : Nat) : (labRow p g f y x).length = x := by simp [labRow]
theorem labRows_len (p : List ByteArray) (g : Gd) (f : Nat → Int) (y : Nat) : (labRows p g f y).length = y := by simp [labRows]
theorem labRow_succ (p : List ByteArray) (g : Gd) (f : Nat → Int) (y x : Nat) : labRow p g f y (x + 1) = labRow p g f y x ++ [f (nmI p g (y * wd p + x))] := by
  unfold labRow; rw [List.range_succ, List.map_append]; rfl
theorem labRows_succ (p : List ByteArray) (g : Gd) (f : Nat → Int) (y : Nat) : labRows p g f (y + 1) = labRows p g f y ++ [labRow p g f y (wd p)] := by
  unfold labRows; rw [List.range_succ, List.map_append]; rfl
theorem labRow_same {p : List ByteArray} {g : Gd} {f f' : Nat → Int} {y x : Nat} (h : ∀ i', i' < y * wd p + x → f' (nmI p g i') = f (nmI p g i')) : labRow p g f' y x = labRow p g f y x := by
  unfold labRow
  apply List.map_congr_left
  intro x' hx
  rw [List.mem_range] at hx
  exact h _ (by omega)
theorem labRows_same {p : List ByteArray} {g : Gd} {f f' : Nat → Int} {y : Nat} (h : ∀ i', i' < y * wd p → f' (nmI p g i') = f (nmI p g i')) : labRows p g f' y = labRows p g f y := by
  unfold labRows
  apply List.map_congr_left
  intro y' hy
  rw [List.mem_range] at hy
  refine labRow_same fun i' hi => h i' ?_
  have h1 : (y' + 1) * wd p ≤ y * wd p := Nat.mul_le_mul_right _ hy
  rw [Nat.succ_mul] at h1
  omega
end Go.Proofs.YteibbnmlmbhkpaaDoor

namespace Go.Proofs.YteibbnmlmbhkpaaDoor
open Go.RowKit
set_option linter.unusedVariables false
set_option linter.unusedSimpArgs false
set_option maxHeartbeats 4000000
set_option maxRecDepth 100000

theorem mul64_any (x y : Nat) (hx : x < 18446744073709551616) (hy : y < 18446744073709551616) (w : World) :
    Calls Tryd.prog 98 #[.int .u64 x, .int .u64 y] w fun e w' => e = .returned (.tuple #[.int .u64 ((x * y / 18446744073709551616 : Nat) : Int), .int .u64 ((x * y % 18446744073709551616 : Nat) : Int)]) ∧ w' = w := by
  obtain ⟨bd, bt, bw, hhi⟩ := Lib.mul64_hi x y hx hy
  have ba := Lib.half_mul_le (a := x / 4294967296) (b := y / 4294967296) (by omega) (by omega)
  have bb := Lib.half_mul_le (a := x / 4294967296) (b := y % 4294967296) (by omega) (by omega)
  have bc := Lib.half_mul_le (a := x % 4294967296) (b := y / 4294967296) (by omega) (by omega)
  have ba' : x / 4294967296 * (y / 4294967296) < 18446744073709551616 := by omega
  have bb' : x / 4294967296 * (y % 4294967296) < 18446744073709551616 := by omega
  have bc' : x % 4294967296 * (y / 4294967296) < 18446744073709551616 := by omega
  have bh1 : x / 4294967296 * (y / 4294967296) + (x / 4294967296 * (y % 4294967296) + x % 4294967296 * (y % 4294967296) / 4294967296) / 4294967296 < 18446744073709551616 := by omega
  have bh : x / 4294967296 * (y / 4294967296) + (x / 4294967296 * (y % 4294967296) + x % 4294967296 * (y % 4294967296) / 4294967296) / 4294967296 + ((x / 4294967296 * (y % 4294967296) + x % 4294967296 * (y % 4294967296) / 4294967296) % 4294967296 + x % 4294967296 * (y / 4294967296)) / 4294967296 < 18446744073709551616 := by omega
  go_enter Tryd.func98, Tryd.ntmps98
  go_wp2
  simp only [Mul64.maskN x hx, Mul64.maskN y hy, Mul64.divN, Mul64.mulN, Mul64.addN, Mul64.wrapN _ bd, Mul64.wrapN _ bb', Mul64.wrapN _ bt, Mul64.maskN _ bt, Mul64.wrapN _ bc', Mul64.wrapN _ bw, Mul64.wrapN _ ba', Mul64.wrapN _ bh1, Mul64.wrapN _ bh, Mul64.wrapM (x * y)]
  rw [hhi]
  go_ret2
  exact ⟨rfl, rfl⟩
theorem mul1_any (y : Nat) (hy : y < 2000) (w : World) :
    Calls Tryd.prog 80 #[.int .u64 1, .int .u64 y] w fun e w' => e = .returned (.tuple #[.int .u64 0, .int .u64 y]) ∧ w' = w := by
  have H := hid (show Calls Tryd.prog 98 #[.int .u64 1, .int .u64 y] w fun e w' => e = .returned (.tuple #[.int .u64 0, .int .u64 y]) ∧ w' = w from (mul64_any 1 y (by omega) (by omega) w).mono fun e w' h => by
    obtain ⟨h1, h2⟩ := h
    rw [Nat.one_mul, Nat.div_eq_of_lt (by omega), Nat.mod_eq_of_lt (by omega)] at h1
    exact ⟨h1, h2⟩)
  clear hy
  go_enter Tryd.func80, Tryd.ntmps80
  go_wp2_with (go_at_call 98; refine H.out.mono ?_; rintro e1 w1 ⟨rfl, hw⟩; rw [hw]; clear hw w1)
  go_ret2
  exact ⟨rfl, rfl⟩
/-- Cells laid one behind the other. -/
def layC : Array Value → Nat → List Value → Array Value
  | cur, _, [] => cur
  | cur, o, v :: r => layC (cur.setIfInBounds o v) (o + 1) r
theorem layC_size : ∀ (cs : List Value) (cur : Array Value) (o : Nat), (layC cur o cs).size = cur.size
  | [], _, _ => rfl
  | v :: r, cur, o => by rw [layC, layC_size r, Array.size_setIfInBounds]
theorem layC_low : ∀ (cs : List Value) (cur : Array Value) (o i : Nat), i < o → (layC cur o cs)[i]? = cur[i]?
  | [], _, _, _, _ => rfl
  | v :: r, cur, o, i, h => by rw [layC, layC_low r _ _ _ (by omega), Array.getElem?_setIfInBounds_ne (by omega)]
theorem layC_get : ∀ (cs : List Value) (cur : Array Value) (o i : Nat) (v : Value), o + i < cur.size → cs[i]? = some v → (layC cur o cs)[o + i]? = some v
  | [], _, _, _, _, _, h => by simp at h
  | u :: r, cur, o, 0, v, hs, h => by
    rw [layC, layC_low r _ _ _ (by omega), Nat.add_zero, Array.getElem?_setIfInBounds_self_of_lt (by omega)]
    simpa using h
  | u :: r, cur, o, i + 1, v, hs, h => by
    rw [layC, show o + (i + 1) = o + 1 + i by omega]
    exact layC_get r _ _ i v (by rw [Array.size_setIfInBounds]; omega) (by simpa using h)
theorem has_setCells {b : Nat} {e : TypeId} : ∀ (cs : List Value) (o : Nat) {w : World} {cur : Array Value} {F : MS}, Has w (blk b cur e + F) → Has (w.setCells b o cs) (blk b (layC cur o cs) e + F) ∧ Ext w (w.setCells b o cs)
  | [], _, w, _, _, h => ⟨h, Ext.refl w⟩
  | v :: r, o, w, cur, F, h => by
    obtain ⟨h1, h2⟩ := has_setCells r (o + 1) (h.setCell o v)
    exact ⟨h1, (Ext.setCell w ⟨b, o, none⟩ v).trans h2⟩
theorem getSome {cur : Array Value} {i : Nat} (h : i < cur.size) : ∃ v, cur[i]? = some v := ⟨_, Array.getElem?_eq_getElem h⟩
/-- A run of the copy of m numbers -1 into an owned slice. -/
theorem copy_ones {w : World} {F : MS} {b o dLen dCap sLen sCap t : Nat} {a : Addr} {cur : Array Value} {ty : TypeId} (h : Has w (blk b cur 3 + F)) (ht : t = min sLen dLen) (hs : o + dLen ≤ cur.size) (hsrc : ∀ j, j < t → w.cell? (a.add j) = some (.int .i64 (-1))) :
    (Builtin.copy_ #[55, 55] ty #[.slice (some ⟨b, o, none⟩) dLen dCap, .slice (some a) sLen sCap]).run Tryd.prog w = .ok (.int .i64 t) (w.setCells b o (List.replicate t (.int .i64 (-1)))) := by
  have hr := run_copy_cells (P := Tryd.prog) w 55 55 ty 3 b o dLen dCap a sLen sCap (List.replicate t (.int .i64 (-1))) und55 size3 (by rw [List.length_replicate]; exact ht)
    (fun j v hj => by
      rw [List.getElem?_replicate] at hj
      split at hj
      · rename_i hlt; injection hj with hj; rw [← hj]; exact hsrc j hlt
      · cases hj)
    (fun j hj => by
      rw [List.length_replicate] at hj
      rw [h.cell]
      obtain ⟨v, hv⟩ := getSome (cur := cur) (i := o + j) (by omega)
      rw [hv]; rfl)
    (fun j _ => h.frozen _) (fun v hv => by rw [(List.mem_replicate.1 hv).2]; rfl)
  rw [List.length_replicate] at hr
  exact hr
theorem repeat_any {b0 c0 n : Nat} {M : MS} {w : World} (hn : 1 ≤ n) (hn2 : n ≤ 1000) (hH : Has w (blk b0 #[.int .i64 (-1)] 3 + M)) :
    Calls Tryd.prog 56 #[.slice (some ⟨b0, 0, none⟩) 1 c0, .int .i64 n] w fun e w' => ∃ b off c cur, e = .returned (.slice (some ⟨b, off, none⟩) n c) ∧ Has w' (blk b cur 3 + MS.all w) ∧ Ext w w' ∧ off + n ≤ cur.size ∧ ∀ j, j < n → cur[off + j]? = some (.int .i64 (-1)) := by
  have Hm := hid (fun (W : World) => mul1_any n (by omega) W)
  have HH := hid hH
  have Hn2 := hid hn2
  have Hn := hid hn
  have hnI : (n : Int) ≤ 1000 := by omega
  have hn1 : (1 : Int) ≤ n := by omega
  have hn0 : ¬ ((n : Int) < 0) := by omega
  have hnb : ¬ (9223372036854775807 < (n : Int)) := by omega
  have w1 : IntKind.u64.wrap (n : Int) = n := by rw [IntKind.wrap_u64]; omega
  have w2 : IntKind.i64.wrap (n : Int) = n := by rw [IntKind.wrap_i64]; omega
  clear hH hn hn2
  go_enter Tryd.func56, Tryd.ntmps56
  go_wp2_with (first
    | (go_at_call 80; refine (Hm.out _).mono ?_; rintro e1 w1 ⟨rfl, hw⟩; rw [hw]; clear hw w1)
    | (refine wpList_make_sl rfl (.tmp 29) (.tmp 29) 55 rfl 3 _ 1 8 und55 info3 .i64 .i64 n rfl rfl (by have := Hn2.out; omega) (by have := Hn2.out; simp only [maxLen]; omega) (MS.all w) (Has.all w) ?_; intro v' w3 m3 j1 j2 j3 _; obtain ⟨b, off, c3, cur, rfl, rfl, hc1, hc2, hfl⟩ := nums_made Hn.out j1; have HFl := hid hfl; have J3 := hid j2; have E3 := hid j3; clear j1 j2 j3 hfl)
    | (refine Lib.wpList_copy_run w3 rfl (.tmp 31) (.tmp 32) 55 55 rfl _ _ rfl rfl (copy_ones (t := 1) (sLen := 1) (sCap := c0) (dLen := n) (dCap := c3) (a := ⟨b0, 0, none⟩) J3.out (by have := Hn.out; omega) HFl.out.1 (fun j hj => by obtain rfl : j = 0 := (by omega); exact (show Has w3 (blk b0 #[.int .i64 (-1)] 3 + M) from HH.out.of_all J3.out).at_ rfl)) ?_; obtain ⟨j4, j5⟩ := has_setCells [Value.int .i64 (-1)] off J3.out; have J4 := hid j4; have E4 := hid (E3.out.trans j5); clear j4 j5))
  have Hsz := hid (show off + n ≤ (layC cur off [Value.int .i64 (-1)]).size by rw [layC_size]; exact HFl.out.1)
  have Hone := hid (show ∀ j, j < 1 → (layC cur off [Value.int .i64 (-1)])[off + j]? = some (.int .i64 (-1)) from fun j hj => by
    obtain rfl : j = 0 := by omega
    exact layC_get _ _ _ _ _ (by have := HFl.out.1; have := Hn.out; omega) rfl)
  generalize layC cur off [Value.int .i64 (-1)] = cur1 at *
  generalize w3.setCells b off [Value.int .i64 (-1)] = w4 at *
  clear HFl J3 E3 Hm w1 w2 hn0 hnb HH
  go_loopw [8] (fun v wr => ∃ m : Nat, ∃ cur, 1 ≤ m ∧ m ≤ n ∧ v = .int .i64 m ∧ off + n ≤ cur.size ∧ (∀ j, j < m → cur[off + j]? = some (.int .i64 (-1))) ∧ Has wr (blk b cur 3 + MS.all w) ∧ Ext w wr) (fun v _ => n - (intOf v).toNat)
  case atStart => exact ⟨1, cur1, Nat.le_refl _, Hn.out, rfl, Hsz.out, Hone.out, J4.out, E4.out⟩
  case round =>
    clear J4 E4 Hsz Hone cur1 w4
    obtain ⟨m, cur1, h1, hm, rfl, hsz, hone, hW, hE⟩ := hrel
    have H1 := hid h1
    have Hsz := hid hsz
    have Hone := hid hone
    have HW := hid hW
    have HE := hid hE
    clear h1 hsz hone hW hE
    by_cases hlt : m < n
    · have hltI : (m : Int) < n := by omega
      have hmI : (m : Int) ≤ n := by omega
      have Hlt := hid hlt
      have hmc : m ≤ c3 := by omega
      have hmcI : (m : Int) ≤ c3 := by omega
      have hmne : ¬ (c3 = m) := by omega
      have hnc : (n : Int) ≤ c3 := by omega
      obtain ⟨t, ht⟩ : ∃ t, t = min m (n - m) := ⟨_, rfl⟩
      have htI : (t : Int) ≤ 1000 := by omega
      have Ht := hid ht
      clear hm
      go_wp2
      refine wp_region_txt (fun W => True) none
        [(0, true), (1, true), (2, true), (3, true), (4, true), (5, true), (6, true), (7, false), (8, true), (9, true)] (by kernel_rfl) rfl (by kernel_rfl) (by kernel_rfl) (by repeat (first | with_reducible refine PanicOk.thn ?_ | with_reducible refine PanicOk.blk ?_ | exact PanicOk.body _ _ _)) ?_
      have hS : True := trivial
      repeat
        (refine txt_quiet ?_ hS rfl rfl (fun W hW => ?_) ?_
         rotate_left 1
         · obtain hW1 := hW
           go_simp
           exact rfl
         simp only [Act.put, List.setIfInBounds_toArray, List.set_cons_zero, List.set_cons_succ])
      obtain ⟨j4, j5⟩ := has_setCells (List.replicate t (Value.int .i64 (-1))) (off + m) HW.out.drew
      have J4 := hid j4
      have J5 := hid ((HE.out.trans (Ext.drew _)).trans j5)
      have Htb := hid (show t ≤ m ∧ t ≤ n - m ∧ (t = m ∨ t = n - m) by omega)
      have Hz := hid (show off + n ≤ (layC cur1 (off + m) (List.replicate t (Value.int .i64 (-1)))).size by rw [layC_size]; exact Hsz.out)
      have Ho := hid (show ∀ j, j < m + t → (layC cur1 (off + m) (List.replicate t (Value.int .i64 (-1))))[off + j]? = some (.int .i64 (-1)) from fun j hj => by
        by_cases hc : j < m
        · rw [layC_low _ _ _ _ (by omega)]; exact Hone.out j hc
        · rw [show off + j = off + m + (j - m) by omega]
          exact layC_get _ _ _ _ _ (by have := Hsz.out; have := Htb.out; omega) (by rw [List.getElem?_replicate, if_pos (by omega)]))
      clear j4 j5
      refine txt_op rfl rfl ?_
      refine op_of (Lib.wp_copy_run wr.drew (.tmp 41) (.tmp 44) 55 55 rfl _ _ rfl rfl (copy_ones (t := t) (sLen := m) (sCap := c3) (dLen := n - m) (dCap := c3 - m) (a := ⟨b, off, none⟩) (b := b) (o := off + m) HW.out.drew ht (by have := Hsz.out; omega) (fun j hj => by rw [show (⟨b, off, none⟩ : Addr).add j = ⟨b, off + j, none⟩ by simp [Addr.add]]; exact HW.out.drew.at_ (Hone.out j (by have := Htb.out; omega)))) ?_)
      generalize layC cur1 (off + m) _ = cur2 at *
      generalize World.setCells _ b (off + m) _ = w9 at *
      have e1 : IntKind.i64.wrap ((m : Int) + t) = (m : Int) + t := by rw [IntKind.wrap_i64]; omega
      clear ht
      refine ⟨fun _ => trivial, ?_⟩
      simp only [Act.put, List.setIfInBounds_toArray, List.set_cons_zero, List.set_cons_succ]
      have hS : True := trivial
      repeat
        (refine txt_quiet ?_ hS rfl rfl (fun W hW => ?_) ?_
         rotate_left 1
         · obtain hW1 := hW
           go_simp
           exact rfl
         simp only [Act.put, List.setIfInBounds_toArray, List.set_cons_zero, List.set_cons_succ])
      refine txt_done ?_
      go_wp2
      go_roundw
      case rel => exact ⟨m + t, cur2, by have := H1.out; omega, by have := Htb.out; clear e1; omega, by go_num, Hz.out, Ho.out, J4.out, J5.out⟩
      case measure => have := Hlt.out; have := Htb.out; have := H1.out; clear e1; simp [intOf]; omega
    · have hme : m = n := by omega
      subst hme
      clear hlt hm
      go_wp2
      go_ret
      exact ⟨_, _, _, _, rfl, HW.out, HE.out, Hsz.out, Hone.out⟩
end Go.Proofs.YteibbnmlmbhkpaaDoor

namespace Go.Proofs.YteibbnmlmbhkpaaDoor
open Go.RowKit
set_option linter.unusedVariables false
set_option linter.unusedSimpArgs false
set_option maxHeartbeats 4000000
set_option maxRecDepth 100000

/-- Cells of an array that hold integers. -/
def IntA (off n : Nat) (f : Nat → Int) (cur : Array Value) : Prop := off + n ≤ cur.size ∧ ∀ j, j < n → cur[off + j]? = some (.int .i64 (f j))
theorem IntA.set {off n : Nat} {f : Nat → Int} {cur : Array Value} (h : IntA off n f cur) {a : Nat} (ha : a < n) (x : Int) : IntA off n (fun j => if j = a then x else f j) (cur.setIfInBounds (off + a) (.int .i64 x)) := by
  refine ⟨by rw [Array.size_setIfInBounds]; exact h.1, fun j hj => ?_⟩
  by_cases hc : j = a
  · rw [hc, Array.getElem?_setIfInBounds_self_of_lt (by have := h.1; omega)]; simp
  · rw [Array.getElem?_setIfInBounds_ne (by omega), h.2 j hj]; simp [hc]
def IntR : Int → List Value → MS → Prop := fun a cs m => cs = [.int .i64 a] ∧ m = 0
theorem IntR.len : ∀ a cs m, IntR a cs m → cs.length = 1 := fun a cs m h => by rw [h.1]; rfl
theorem IntR.one : ∀ a cs m, IntR a cs m → ∀ u ∈ cs, u.oneCell' = true := fun a cs m h u hu => by
  rw [h.1] at hu; simp at hu; rw [hu]; rfl
def RowR : List Int → List Value → MS → Prop := El (fun row v m => SlR 3 1 IntR row v m)
theorem RowR.len : ∀ a cs m, RowR a cs m → cs.length = 1 := fun a cs m ⟨v, h, _, _⟩ => by rw [h]; rfl
theorem RowR.one : ∀ a cs m, RowR a cs m → ∀ u ∈ cs, u.oneCell' = true := fun a cs m ⟨v, h, _, h1⟩ u hu => by
  rw [h] at hu; simp at hu; rw [hu]; exact h1
theorem row55 : RowTy Tryd.prog 55 3 (.int .i64 0) 1 8 := ⟨by kernel_rfl, by kernel_rfl, rfl⟩
theorem row51 : RowTy Tryd.prog 51 55 (.slice none 0 0) 1 24 := ⟨by kernel_rfl, by kernel_rfl, rfl⟩
theorem take_hit {g : Gd} {l : List Mv} {t : Nat} {m : Mv} (h : l[t]? = some m) (x y : Int) (c : Nat) : Hit g (l.take (t + 1)) x y c ↔ (Hit g (l.take t) x y c ∨ num g (m.toX x y) (m.toY x y) = c) := by
  unfold Hit
  rw [take_more h]
  constructor
  · rintro ⟨m', hm, h1⟩
    rcases List.mem_append.1 hm with hm | hm
    · exact .inl ⟨m', hm, h1⟩
    · simp at hm; rw [hm] at h1; exact .inr h1
  · rintro (⟨m', hm, h1⟩ | h1)
    · exact ⟨m', List.mem_append.2 (.inl hm), h1⟩
    · exact ⟨m, List.mem_append.2 (.inr (by simp)), h1⟩
/-- What Orbits hands back. -/
def OrbRes (p : List ByteArray) (w : World) (e : Ending) (w' : World) : Prop :=
  ∃ A' c' er rows X, e = .returned (.tuple #[.slice A' (List.length rows) c', .int .i64 er]) ∧ Kp w w' ∧ Has w' X ∧ RdS X (RT.sl RT.int) rows (.slice A' (List.length rows) c') ∧ (isPat p = false → rows = [] ∧ er = 2) ∧
    (isPat p = true → er = 0 ∧ ∃ g f n, IsLat p g ∧ OInv p g f (wd p * p.length) n ∧ rows = labRows p g f p.length)
theorem orbits_no {F : MS} {p : List ByteArray} {A : Option Addr} {c : Nat} {w : World} (h : Giv F p A c) (hH : Has w F) (hp : isPat p = false) :
    Calls Tryd.prog 30 #[.slice A p.length c] w (OrbRes p w) := by
  have Hof := hid (of_any h.rd h.l h.s hH)
  have Hq := hid hp
  rw [hp] at Hof
  clear h hH hp
  go_enter Tryd.func30, Tryd.ntmps30
  go_wp2_with (go_at_call 33; refine Hof.out.mono ?_; rintro e1 w1 ⟨r, rfl, k1, _⟩; have K1 := hid k1; clear k1)
  go_ret2
  exact ⟨none, 0, 2, [], MS.all _, rfl, K1.out, Has.all _, RdS.nil _ _, fun _ => ⟨rfl, rfl⟩, fun h => by rw [Hq.out] at h; cases h⟩
theorem orbits_ok {F : MS} {p : List ByteArray} {A : Option Addr} {c : Nat} {w : World} (h : Giv F p A c) (hk : KinOk F) (hH : Has w F) (hp : isPat p = true) :
    Calls Tryd.prog 30 #[.slice A p.length c] w (OrbRes p w) := by
  have Hof := hid (of_any h.rd h.l h.s hH)
  have Hq := hid hp
  have Hp := hid (isPat.ok hp).1
  have Hk := hid hk
  have HH := hid hH
  rw [hp] at Hof
  have Hgr := hid (fun (W : World) (X : MS) (fb : Nat) (hf : Flo X p fb) (hW : Has W X) (hF : Has W F) => group_any (hf.all hW) (isPat.ok hp).1 (Hk.out.all hF) (Has.all W))
  have Hto := hid (fun (m : Mv) (x y : Int) (W : World) => to_any m x y W)
  clear h hH hp hk
  go_enter Tryd.func30, Tryd.ntmps30
  go_wp2_with (first
    | (go_at_call 56; refine (repeat_any (b0 := w3.heap.size) (c0 := 1) (n := N) (M := MS.all w3) HN1.out (by have := HN36.out; omega) ((Has.all w3).alloc _)).mono ?_; rintro e4 w4 ⟨b, off, c4, cur, rfl, kH, kE, ksz, kone⟩; have KH := hid kH; have KE := hid kE; have KI := hid (show IntA off N (fun _ => -1) cur from ⟨ksz, kone⟩); have KW := hid (show Kp w1 (w3.alloc (.cells #[.int .i64 (-1)] 3)) from (K2.out.trans K3.out).trans ⟨fun M hM => hM.of_all ((Has.all w3).alloc _), Ext.alloc _ _⟩); have KW3 := hid (show Kp w3 (w3.alloc (.cells #[.int .i64 (-1)] 3)) from ⟨fun M hM => hM.of_all ((Has.all w3).alloc _), Ext.alloc _ _⟩); obtain ⟨Af, cf, ff0, ff1, _, _⟩ := KF.out; have f1 : w4.cell? ⟨fb, 1, none⟩ = some (.int .i64 p.length) := ff1.c0 ((KW.out.1 _ KX.out).of_all kH); have FF0 := hid ff0; have FF1 := hid ff1; clear ff0 ff1; clear kH kE ksz kone)
    | (go_at_call 55; refine (cells_any Hg.out HY.out).mono ?_; rintro e3 w3 ⟨bx, A3, c3, X3, rfl, k3, hX3, hbx, hrc⟩; have K3 := hid k3; have HX3 := hid hX3; have Hbx := hid hbx; clear k3 hX3 hbx hrc; have hn36 : g.A * g.D ≤ 6 * 6 := Nat.mul_le_mul (Hg.out.lat.a6 Hg.out.pok).1 (Hg.out.lat.a6 Hg.out.pok).2.1; have hn1 : 1 ≤ g.A * g.D := Nat.mul_pos (by have := Hg.out.lat.a1; omega) (by have := Hg.out.lat.d1; omega); obtain ⟨N, hN⟩ : ∃ N, N = g.A * g.D := ⟨_, rfl⟩; rw [← hN] at hn36 hn1 ⊢; have HN := hid hN; have HN36 := hid hn36; have HN1 := hid hn1; clear hN hn36 hn1)
    | (go_at_call 33; refine Hof.out.mono ?_; rintro e1 w1 ⟨r, rfl, k1, kf⟩; obtain ⟨fb, X, rfl, kX, kF⟩ := kf rfl; have K1 := hid k1; have KX := hid kX; have KF := hid kF; clear k1 kX kF kf)
    | (go_at_call 36; refine (Hgr.out _ X fb KF.out KX.out (K1.out.1 _ HH.out)).mono ?_; rintro e2 w2 ⟨g, gb, Y, rfl, hg, hY, k2⟩; have Hg := hid hg; have HY := hid hY; have K2 := hid k2; clear hg hY k2))
  have HKp := hid (show ∀ W Y, Has W (Y + MS.all (w3.alloc (.cells #[.int .i64 (-1)] 3))) → Ext w4 W → Kp w W from fun W Y hW hE => K1.out.trans (KW.out.trans ⟨fun M hM => hM.of_all hW, KE.out.trans hE⟩))
  obtain ⟨Am, cm, ha1, ha2⟩ := Hg.out.all
  have Ha2 := hid ha2
  obtain ⟨L, hL⟩ : ∃ L, L = (symL p g).length := ⟨_, rfl⟩
  rw [← hL] at ha1
  have HL := hid hL
  have hL8 : (L : Int) ≤ 8 := by have := symL_le Hg.out.pok Hg.out.lat; omega
  have Hf := hid (show ∀ W Y', Has W (Y' + MS.all (w3.alloc (.cells #[.int .i64 (-1)] 3))) → (W.cell? ⟨fb, 0, none⟩ = some (.int .i64 (wd p)) ∧ W.cell? ⟨fb, 1, none⟩ = some (.int .i64 p.length) ∧ W.cell? ⟨gb, 3, none⟩ = some (.slice Am L cm)) from fun W Y' hW => by
    have hX : Has W X := (KW.out.1 _ KX.out).of_all hW
    have hY : Has W Y := (KW3.out.1 _ (K3.out.1 _ HY.out)).of_all hW
    exact ⟨FF0.out.c0 hX, FF1.out.c0 hX, ha1.c0 hY⟩)
  have HY4 := hid (show ∀ W Y', Has W (Y' + MS.all (w3.alloc (.cells #[.int .i64 (-1)] 3))) → Has W Y from fun W Y' hW => (KW3.out.1 _ (K3.out.1 _ HY.out)).of_all hW)
  have Hnum := hid (fun (W : World) (Y' : MS) (hW : Has W (Y' + MS.all (w3.alloc (.cells #[.int .i64 (-1)] 3)))) (x y : Int) (hx : -1000 ≤ x ∧ x ≤ 1000) (hy : -1000 ≤ y ∧ y ≤ 1000) => number_any (Hg.out.all' (K3.out.1 _ HY.out)) (at_all Hbx.out HX3.out) ((KW3.out.1 _ (Has.all w3)).of_all hW) x y hx hy)
  have Hlat := hid Hg.out.lat
  have Hp1 := hid (show (1 ≤ p.length ∧ p.length ≤ 6) ∧ (1 ≤ wd p ∧ wd p ≤ 6) from ⟨⟨Hp.out.h1, Hp.out.h6⟩, Hp.out.w1, Hp.out.w6⟩)
  obtain ⟨h, hh⟩ : ∃ h, h = p.length := ⟨_, rfl⟩
  obtain ⟨ww, hww⟩ : ∃ ww, ww = wd p := ⟨_, rfl⟩
  have Hh := hid hh
  have Hww := hid hww
  rw [← hh, ← hww] at Hf Hp1
  rw [← hh]
  have hhI : (h : Int) ≤ 6 := by have := Hp1.out; omega
  have hwI : (ww : Int) ≤ 6 := by have := Hp1.out; omega
  have hN36 : (N : Int) ≤ 36 := by have := HN36.out; omega
  generalize MS.all (w3.alloc (.cells #[.int .i64 (-1)] 3)) = G at *
  clear f1 Hof K1 KX KF HY K2 K3 HX3 Hbx KE KW KW3 FF0 FF1 ha1 ha2 hL Hgr Hk HH hh hww
  go_loopw [10, 11, 39] (fun vn vo v wr => ∃ y n : Nat, ∃ f B dd mo cur, y ≤ h ∧ v = .int .i64 y ∧ vn = .int .i64 n ∧ vo = .slice B y dd ∧ OInv p g f (y * ww) n ∧ SlR 55 1 RowR (labRows p g f y) (.slice B y dd) mo ∧ IntA off N f cur ∧ Has wr (mo + (blk b cur 3 + G)) ∧ Ext w4 wr) (fun _ _ v _ => h - (intOf v).toNat)
  case atStart => exact ⟨0, 0, _, none, 0, 0, cur, Nat.zero_le _, rfl, rfl, rfl, by rw [Nat.zero_mul]; exact OInv.start p g, ⟨[], 0, 0, Sl.nil _ _, RowsR.nil, by rw [MS.zero_add]⟩, KI.out, KH.out.eq (by rw [MS.zero_add]), Ext.refl _⟩
  case round =>
    clear KI KH
    obtain ⟨y, n, f, B, dd, mo, cur, hy, rfl, rfl, rfl, hinv, hS, hI, hW, hE⟩ := hrel
    have HI := hid hinv
    have HS := hid hS
    have HA := hid hI
    have HW := hid hW
    have HE := hid hE
    clear hinv hS hI hW hE
    by_cases hlt : y < h
    · have hltI : (y : Int) < h := by omega
      have Hlt := hid hlt
      clear hlt hy
      obtain ⟨f0, f1, f2⟩ := Hf.out wr _ (HW.out.eq (MS.add_assoc _ _ _).symm)
      go_wp2
      clear f0 f1 f2
      go_loopw [10, 13, 46] (fun vn vr v wr => ∃ x n : Nat, ∃ f' B2 d2 mr cur, x ≤ ww ∧ v = .int .i64 x ∧ vn = .int .i64 n ∧ vr = .slice B2 x d2 ∧ OInv p g f' (y * ww + x) n ∧ labRows p g f' y = labRows p g f y ∧ SlR 3 1 IntR (labRow p g f' y x) (.slice B2 x d2) mr ∧ IntA off N f' cur ∧ Has wr (mr + (mo + (blk b cur 3 + G))) ∧ Ext w4 wr) (fun _ _ v _ => ww - (intOf v).toNat)
      case atStart => exact ⟨0, n, f, none, 0, 0, cur, Nat.zero_le _, rfl, rfl, rfl, HI.out, rfl, ⟨[], 0, 0, Sl.nil _ _, RowsR.nil, by rw [MS.zero_add]⟩, HA.out, HW.out.eq (by rw [MS.zero_add]), HE.out⟩
      case round =>
        clear HI HA HW HE
        obtain ⟨x, n, f', B2, d2, mr, cur, hx, rfl, rfl, rfl, hinv, hsame, hS, hI, hW, hE⟩ := hrel
        have HI := hid hinv
        have Hsame := hid hsame
        have HS2 := hid hS
        have HA := hid hI
        have HW := hid hW
        have HE := hid hE
        clear hinv hS hI hW hE hsame
        by_cases hlx : x < ww
        · have hlxI : (x : Int) < ww := by omega
          have Hlx := hid hlx
          have hcell : nmI p g (y * ww + x) = num g (x : Int) (y : Int) := by
            unfold nmI cX cY
            rw [← Hww.out, Nat.mul_comm, Nat.mul_add_mod, Nat.mod_eq_of_lt hlx, Nat.mul_add_div (by omega), Nat.div_eq_of_lt hlx, Nat.add_zero]
          have Hx6 := hid (show ((0 : Int) ≤ x ∧ (x : Int) ≤ 6) ∧ ((0 : Int) ≤ y ∧ (y : Int) ≤ 6) by omega)
          have Hnc := hid (fun (W : World) (Y' : MS) (hW : Has W (Y' + G)) => Hnum.out W Y' hW (x : Int) (y : Int) (by omega) (by omega))
          have hclt : num g (x : Int) (y : Int) < N := by rw [HN.out, ← hcell]; exact nmI_lt Hlat.out _
          have Hcell := hid hcell
          obtain ⟨c0, hc0⟩ : ∃ c0, c0 = num g (x : Int) (y : Int) := ⟨_, rfl⟩
          rw [← hc0] at Hnc hclt Hcell
          have Hc0 := hid hc0
          have hcI : (c0 : Int) < N := by omega
          have Hclt := hid hclt
          have cellv := hid (show ∀ W cur f'' mr, IntA off N f'' cur → Has W (mr + (mo + (blk b cur 3 + G))) → W.cell? ⟨b, off + c0, none⟩ = some (.int .i64 (f'' c0)) from fun W cur f'' mr hI hW => (hW.eq (b := blk b cur 3 + (mr + (mo + G))) (by ac_rfl)).at_ (hI.2 c0 hclt))
          clear hlx hx hcell hclt hc0
          have hn36 : (n : Int) ≤ 36 := by
            have h1 := HI.out.le
            have h2 := Hp1.out
            have h3 : (y + 1) * ww ≤ h * ww := Nat.mul_le_mul_right _ Hlt.out
            have h4 : h * ww ≤ 6 * 6 := Nat.mul_le_mul (by omega) (by omega)
            rw [Nat.succ_mul] at h3
            have := Hlx.out
            omega
          obtain ⟨zz, hzz⟩ : ∃ zz, zz = f' c0 := ⟨_, rfl⟩
          have Hzz := hid hzz
          have hG : ∀ {m1 m2 m3 : MS}, m1 + (m2 + (m3 + G)) = (m1 + (m2 + m3)) + G := by intro m1 m2 m3; ac_rfl
          have HG := hid (show ∀ (W : World) (m1 m2 m3 : MS), Has W (m1 + (m2 + (m3 + G))) → Has W ((m1 + (m2 + m3)) + G) from fun W m1 m2 m3 hW => hW.eq hG)
          clear hG
          by_cases hneg : zz < 0
          · have Hneg := hid hneg
            clear hzz
            go_wp2_with (go_at_call 78; refine (Hnc.out wr _ (HG.out _ _ _ _ HW.out)).mono ?_; rintro e5 w5 ⟨rfl, k5⟩; have f0 := cellv.out w5 cur f' mr HA.out (k5.1 _ HW.out); rw [← Hzz.out] at f0; obtain ⟨_, _, f2⟩ := Hf.out w5 _ (HG.out _ _ _ _ (k5.1 _ HW.out)); have HW5 := hid (k5.1 _ HW.out); have HE5 := hid (HE.out.trans k5.2); clear k5)
            clear f0 f2 hneg
            go_loopw [62] (fun v wr => ∃ t : Nat, ∃ f2 : Nat → Int, ∃ cur, t ≤ L ∧ v = .int .i64 t ∧ (∀ c, c < N → Hit g ((symL p g).take t) x y c → f2 c = n) ∧ (∀ c, c < N → ¬ Hit g ((symL p g).take t) x y c → f2 c = f' c) ∧ IntA off N f2 cur ∧ Has wr (mr + (mo + (blk b cur 3 + G))) ∧ Ext w4 wr) (fun v _ => L - (intOf v).toNat)
            case atStart => exact ⟨0, f', cur, Nat.zero_le _, rfl, fun c _ ⟨m, hm, _⟩ => (by simp at hm), fun c _ _ => rfl, HA.out, HW5.out, HE5.out⟩
            case round =>
              clear HA HW HE HW5 HE5
              obtain ⟨t, fm, cur, ht, rfl, h1, h2, hI, hW, hE⟩ := hrel
              have HH1 := hid h1
              have HH2 := hid h2
              have HA := hid hI
              have HW := hid hW
              have HE := hid hE
              clear h1 h2 hI hW hE
              by_cases hltt : t < L
              · have htI : (t : Int) < L := by omega
                have Htl := hid hltt
                obtain ⟨m, hm⟩ : ∃ m, (symL p g)[t]? = some m := ⟨_, List.getElem?_eq_getElem (by have := HL.out; omega)⟩
                obtain ⟨bm, om, hAm, hcs⟩ := Ha2.out.mvAt hm
                subst hAm
                obtain ⟨n0, n1, n2, n3, n4, n5⟩ := hcs wr (HY4.out wr _ (HG.out _ _ _ _ HW.out))
                have hsm := hit_small Hp.out Hlat.out Hx6.out.1 Hx6.out.2 (List.mem_of_getElem? hm)
                have Hth := hid (fun c => take_hit (g := g) hm (x : Int) (y : Int) c)
                have Htm := hid (fun W => Hto.out m (x : Int) (y : Int) W)
                generalize m.toX (x : Int) (y : Int) = tx at *
                generalize m.toY (x : Int) (y : Int) = ty at *
                have Hnt := hid (fun (W : World) (Y' : MS) (hW : Has W (Y' + G)) => Hnum.out W Y' hW tx ty hsm.1 hsm.2)
                have hal : num g tx ty < N := by rw [HN.out]; exact num_lt Hlat.out.a1 Hlat.out.d1 _ _
                generalize num g tx ty = a at *
                have haI : (a : Int) < N := by omega
                have Hal := hid hal
                obtain ⟨ma, mb, mc, md, me, mf⟩ := m
                have Htm2 := hid (show ∀ W, Calls Tryd.prog 42 #[.agg #[.int .i64 ma, .int .i64 mb, .int .i64 mc, .int .i64 md, .int .i64 me, .int .i64 mf], .int .i64 (x : Int), .int .i64 (y : Int)] W fun e w' => e = .returned (.tuple #[.int .i64 tx, .int .i64 ty]) ∧ Kp W w' from Htm.out)
                clear hltt ht hm hcs hsm hal Htm
                go_wp2_with (first
                  | (go_at_call 42; refine (Htm2.out _).mono ?_; rintro e6 w6 ⟨rfl, k6⟩; have HW6 := hid (k6.1 _ ((Has.alloc HW.out (.cells #[.int .i64 ma, .int .i64 mb, .int .i64 mc, .int .i64 md, .int .i64 me, .int .i64 mf] 41)).right)); have HE6 := hid ((HE.out.trans (Ext.alloc _ _)).trans k6.2); clear k6)
                  | (go_at_call 78; refine (Hnt.out w6 _ (HG.out _ _ _ _ HW6.out)).mono ?_; rintro e7 w7 ⟨rfl, k7⟩; have HW7 := hid (k7.1 _ HW6.out); have HE7 := hid (HE6.out.trans k7.2); clear k7)
                  | (refine wpList_store_blk rfl (.tmp 76) (.tmp 75) 3 rfl size3 b (off + a) (.int .i64 n) rfl rfl rfl cur 3 (mr + (mo + G)) (HW7.out.eq (by ac_rfl)) (by have := HA.out.1; have := Hal.out; omega) ?_; intro w9 k1 k2; have HW9 := hid k1; have HE9 := hid (HE7.out.trans k2); clear k1 k2))
                go_roundw
                case rel => exact ⟨t + 1, _, _, Htl.out, by go_num, fun c hc hh => by
                    show (if c = a then (n : Int) else fm c) = n
                    by_cases hca : c = a
                    · rw [if_pos hca]
                    · rw [if_neg hca]
                      rcases (Hth.out c).1 hh with h | h
                      · exact HH1.out c hc h
                      · exact absurd h.symm hca, fun c hc hh => by
                    show (if c = a then (n : Int) else fm c) = f' c
                    by_cases hca : c = a
                    · exact absurd ((Hth.out c).2 (.inr hca.symm)) hh
                    · rw [if_neg hca]
                      exact HH2.out c hc fun h => hh ((Hth.out c).2 (.inl h)), HA.out.set Hal.out (n : Int), HW9.out.eq (by ac_rfl), HE9.out⟩
                case measure => have := Htl.out; simp [intOf]; omega
              · have hte : t = (symL p g).length := by have := HL.out; omega
                rw [hte, List.take_length] at HH1 HH2
                have hor : ∀ c, c < N → (OrbC p g (nmI p g (y * ww + x)) c ↔ Hit g (symL p g) x y c) := fun c hc => by
                  rw [Hcell.out, Hc0.out, OrbC.of Hp.out Hlat.out, hit_iff Hp.out Hlat.out Hx6.out.1 Hx6.out.2 (by rw [← HN.out]; exact hc)]
                have Hnew := hid (HI.out.new Hp.out Hlat.out (f' := fm) (by rw [Hcell.out, ← Hzz.out]; exact Hneg.out) (fun c hc ho => HH1.out c (by rw [HN.out]; exact hc) ((hor c (by rw [HN.out]; exact hc)).1 ho)) (fun c hc ho => HH2.out c (by rw [HN.out]; exact hc) fun h => ho ((hor c (by rw [HN.out]; exact hc)).2 h)))
                clear hor hte ht HH1 HH2
                have htL : ¬ ((t : Int) < L) := by omega
                obtain ⟨zm, hzm⟩ : ∃ zm, zm = fm c0 := ⟨_, rfl⟩
                have Hzm := hid hzm
                clear hzm hltt
                go_wp2_with (first
                  | (go_at_call 78; refine (Hnc.out wr _ (HG.out _ _ _ _ HW.out)).mono ?_; rintro e5 w5 ⟨rfl, k5⟩; have f0 := cellv.out w5 cur fm mr HA.out (k5.1 _ HW.out); rw [← Hzm.out] at f0; have HW5 := hid (k5.1 _ HW.out); have HE5 := hid (HE.out.trans k5.2); clear k5)
                  | (at_builtin; refine wpList_push rfl (.tmp 80) (.tmp 88) row55 rfl (.slice B2 x d2) rfl _ rfl (by simp) IntR IntR.one IntR.len (labRow p g f' y x) zm mr 0 (mo + (blk b cur 3 + G)) HS2.out ⟨rfl, rfl⟩ (HW5.out.eq (by rw [MS.zero_add])) x (labRow_len _ _ _ _ _) (by omega) (by omega) ?_; intro A8 c8 w8 m8 j4 j5 j6; have J4 := hid j4; have J5 := hid j5; have J6 := hid (HE5.out.trans j6); clear j4 j5 j6))
                go_roundw
                case rel => exact ⟨x + 1, n + 1, fm, A8, c8, m8, cur, Hlx.out, by go_num, by go_num, rfl, Hnew.out.1, by
                    rw [← Hsame.out]
                    exact labRows_same fun i' hi' => Hnew.out.2 i' (by rw [Hww.out]; omega), by
                    rw [labRow_succ, ← Hww.out, Hcell.out, ← Hzm.out, labRow_same (f := f') fun i' hi' => Hnew.out.2 i' (by rw [Hww.out]; exact hi')]
                    exact J4.out, HA.out, J5.out, J6.out⟩
                case measure => have := Hlx.out; simp [intOf]; omega
          · have Hneg := hid hneg
            clear hzz
            go_wp2_with (first
              | (go_at_call 78; have kk := HW5; clear kk; refine (Hnc.out w5 _ (HG.out _ _ _ _ HW5.out)).mono ?_; rintro e6 w6 ⟨rfl, k6⟩; have f1 := cellv.out w6 cur f' mr HA.out (k6.1 _ HW5.out); rw [← Hzz.out] at f1; have HW6 := hid (k6.1 _ HW5.out); have HE6 := hid (HE5.out.trans k6.2); clear k6)
              | (go_at_call 78; refine (Hnc.out wr _ (HG.out _ _ _ _ HW.out)).mono ?_; rintro e5 w5 ⟨rfl, k5⟩; have f0 := cellv.out w5 cur f' mr HA.out (k5.1 _ HW.out); rw [← Hzz.out] at f0; have HW5 := hid (k5.1 _ HW.out); have HE5 := hid (HE.out.trans k5.2); clear k5)
              | (at_builtin; refine wpList_push rfl (.tmp 80) (.tmp 88) row55 rfl (.slice B2 x d2) rfl _ rfl (by simp) IntR IntR.one IntR.len (labRow p g f' y x) zz mr 0 (mo + (blk b cur 3 + G)) HS2.out ⟨rfl, rfl⟩ (HW6.out.eq (by rw [MS.zero_add])) x (labRow_len _ _ _ _ _) (by omega) (by omega) ?_; intro A8 c8 w8 m8 j4 j5 j6; have J4 := hid j4; have J5 := hid j5; have J6 := hid (HE6.out.trans j6); clear j4 j5 j6))
            go_roundw
            case rel => exact ⟨x + 1, n, f', A8, c8, m8, cur, Hlx.out, by go_num, rfl, rfl, HI.out.old (by rw [Hcell.out, ← Hzz.out]; have := Hneg.out; omega), Hsame.out, by
                rw [labRow_succ, ← Hww.out, Hcell.out, ← Hzz.out]
                exact J4.out, HA.out, J5.out, J6.out⟩
            case measure => have := Hlx.out; simp [intOf]; omega
        · have hxe : x = ww := by omega
          subst hxe
          clear hlx hx
          go_wp2_with (at_builtin; refine wpList_push rfl (.tmp 91) (.tmp 93) row51 rfl (.slice B y dd) rfl _ rfl (by simp) RowR RowR.one RowR.len (labRows p g f y) (labRow p g f' y x) mo mr (blk b cur 3 + G) HS.out ⟨_, rfl, HS2.out, rfl⟩ (HW.out.eq (by ac_rfl)) y (labRows_len _ _ _ _) (by omega) (by omega) ?_; intro A8 c8 w8 m8 j4 j5 j6; have J4 := hid j4; have J5 := hid j5; have J6 := hid (HE.out.trans j6); clear j4 j5 j6)
          go_roundw
          case rel => exact ⟨y + 1, n, f', A8, c8, m8, cur, Hlt.out, by go_num, rfl, rfl, by rw [Nat.succ_mul]; exact HI.out, by rw [labRows_succ, Hsame.out, ← Hww.out]; exact J4.out, HA.out, J5.out, J6.out⟩
          case measure => have := Hlt.out; simp [intOf]; omega
    · have hye : y = h := by omega
      subst hye
      clear hlt hy
      obtain ⟨f0, f1, f2⟩ := Hf.out wr _ (HW.out.eq (MS.add_assoc _ _ _).symm)
      go_wp2
      go_ret2
      have hrd : RdS mo (RT.sl RT.int) (labRows p g f y) (.slice B y dd) := SlR.rd (T := RT.sl RT.int) (El.rd fun row v m h => ⟨v, rfl, SlR.rd (R := IntR) (T := RT.int) (fun a cs m h => h.1) h⟩) HS.out
      refine ⟨B, dd, 0, labRows p g f y, _, by rw [labRows_len]; rfl, HKp.out _ _ (HW.out.eq (MS.add_assoc _ _ _).symm) HE.out, HW.out, by rw [labRows_len]; exact hrd.less _, fun h => (by rw [Hq.out] at h; cases h), fun _ => ⟨rfl, g, f, n, Hlat.out, ?_, by rw [← Hh.out]⟩⟩
      have := HI.out
      rw [Hh.out, Hww.out, Nat.mul_comm] at this
      exact this
end Go.Proofs.YteibbnmlmbhkpaaDoor

namespace Go.Proofs.YteibbnmlmbhkpaaDoor
open Go.RowKit
set_option linter.unusedVariables false
set_option linter.unusedSimpArgs false
set_option maxHeartbeats 4000000
set_option maxRecDepth 100000

theorem many_succ (lb : Nat → Nat) (n s : Nat) : many lb (n + 1) s = if s = lb n then many lb n s + 1 else many lb n s := by
  unfold many
  rw [List.range_succ, List.countP_append]
  by_cases h : s = lb n
  · rw [if_pos h]; simp [List.countP_cons, h]
  · rw [if_neg h]; simp [List.countP_cons]; omega
theorem many_le (lb : Nat → Nat) (n s : Nat) : many lb n s ≤ n := by
  unfold many
  have := List.countP_le_length (p := fun i => lb i == s) (l := List.range n)
  rwa [List.length_range] at this
def hstU (lb : Nat → Nat) (N i z : Nat) : Nat := (List.range i).countP fun s => many lb N s == z
theorem hstU_succ (lb : Nat → Nat) (N i z : Nat) : hstU lb N (i + 1) z = if z = many lb N i then hstU lb N i z + 1 else hstU lb N i z := by
  unfold hstU
  rw [List.range_succ, List.countP_append]
  by_cases h : z = many lb N i
  · rw [if_pos h]; simp [List.countP_cons, h]
  · rw [if_neg h]; simp [List.countP_cons]; omega
theorem hstU_le (lb : Nat → Nat) (N i z : Nat) : hstU lb N i z ≤ i := by
  unfold hstU
  have := List.countP_le_length (p := fun s => many lb N s == z) (l := List.range i)
  rwa [List.length_range] at this
/-- Rows of labels, row after row. -/
def RowsOf (rows : List (List Int)) (lb : Nat → Nat) (ww h : Nat) : Prop := rows.length = h ∧ ∀ y : Nat, y < h → ∃ r, rows[y]? = some r ∧ r.length = ww ∧ ∀ x : Nat, x < ww → r[x]? = some (lb (y * ww + x) : Int)
def hstL (lb : Nat → Nat) (N : Nat) : List Int := (List.range 40).map fun z => (hst lb N z : Int)
theorem sizes_any {F : MS} {rows : List (List Int)} {lb : Nat → Nat} {A : Option Addr} {c ww h : Nat} {w : World} (hr : RdS F (RT.sl RT.int) rows (.slice A rows.length c)) (hH : Has w F) (hro : RowsOf rows lb ww h) (hw : ww ≤ 6) (hh : h ≤ 6) (hlb : ∀ i, i < ww * h → lb i < 40) :
    Calls Tryd.prog 32 #[.slice A rows.length c] w fun e w' => ∃ A' c' X, e = .returned (.slice A' 40 c') ∧ Kp w w' ∧ Has w' X ∧ RdS X RT.int (hstL lb (ww * h)) (.slice A' 40 c') := by
  have Hr := hid hr
  have HF := hid hH
  have Hro := hid hro.2
  have Hlb := hid hlb
  have hwI : (ww : Int) ≤ 6 := by omega
  have hhI : (h : Int) ≤ 6 := by omega
  have Hw := hid hw
  have Hh := hid hh
  have Hin := hid (fun (y x : Nat) (hy : y < h) (hx : x < ww) => show y * ww + x < ww * h from by
    have h1 : (y + 1) * ww ≤ h * ww := Nat.mul_le_mul_right _ hy
    rw [Nat.succ_mul, Nat.mul_comm h] at h1
    omega)
  have HN := hid (show ww * h ≤ 36 from Nat.mul_le_mul hw hh)
  have hnc := hr.cells.2.1
  rw [hro.1] at hnc ⊢
  rw [hro.1] at Hr
  obtain ⟨N, hN⟩ : ∃ N, N = ww * h := ⟨_, rfl⟩
  rw [← hN] at Hin HN ⊢
  rw [← hN] at Hlb
  have HNe := hid hN
  clear hr hH hro hlb hw hh hN
  go_enter Tryd.func32, Tryd.ntmps32
  go_wp2_with (refine wpList_make_sl rfl (.const (.int .i64 40)) (.const (.int .i64 40)) 55 rfl 3 _ 1 8 und55 info3 .i64 .i64 40 rfl rfl (by omega) (by simp [maxLen]) (MS.all w) (Has.all w) ?_; intro v' w3 m3 j1 j2 j3 _; obtain ⟨b, off, c3, cur, rfl, rfl, hc1, hc2, hfl⟩ := nums_made (by omega) j1; have HFl := hid hfl; have J3 := hid j2; have E3 := hid j3; clear j1 j2 j3 hfl)
  go_loopw [4] (fun v wr => ∃ y : Nat, ∃ cur, y ≤ h ∧ v = .int .i64 y ∧ NumA off 40 (fun s => many lb (y * ww) s) cur ∧ Has wr (blk b cur 3 + MS.all w) ∧ Ext w wr) (fun v _ => h - (intOf v).toNat)
  case atStart => exact ⟨0, cur, Nat.zero_le _, rfl, by rw [Nat.zero_mul]; exact HFl.out, J3.out, E3.out⟩
  case round =>
    clear HFl J3 E3
    obtain ⟨y, cur, hy, rfl, hA, hW, hE⟩ := hrel
    have HA := hid hA
    have HW := hid hW
    have HE := hid hE
    clear hA hW hE
    by_cases hlt : y < h
    · have hltI : (y : Int) < h := by omega
      have Hlt := hid hlt
      obtain ⟨r, hr1, hr2, hr3⟩ := Hro.out y hlt
      obtain ⟨b1, o1, A1, c1, hA1, hat, hrr, hc1', hc2'⟩ := Hr.out.getSl hr1
      subst hA1
      rw [hr2] at hat hrr hc1'
      have Hat := hid hat
      have Hrr := hid hrr
      have Hr3 := hid hr3
      clear hlt hy hat hrr hr1 hr2 hr3
      go_wp2
      go_loopw [5] (fun v wr => ∃ x : Nat, ∃ cur, x ≤ ww ∧ v = .int .i64 x ∧ NumA off 40 (fun s => many lb (y * ww + x) s) cur ∧ Has wr (blk b cur 3 + MS.all w) ∧ Ext w wr) (fun v _ => ww - (intOf v).toNat)
      case atStart => exact ⟨0, cur, Nat.zero_le _, rfl, HA.out, HW.out, HE.out⟩
      case round =>
        clear HA HW HE
        obtain ⟨x, cur, hx, rfl, hA, hW, hE⟩ := hrel
        have HA := hid hA
        have HW := hid hW
        have HE := hid hE
        clear hA hW hE
        have f0 := Hat.out.c0 (HF.out.of_all HW.out)
        by_cases hlx : x < ww
        · have hlxI : (x : Int) < ww := by omega
          have Hlx := hid hlx
          obtain ⟨b2, o2, hA2, hat2⟩ := Hrr.out.getInt (Hr3.out x hlx)
          subst hA2
          have f1 := hat2.c0 (HF.out.of_all HW.out)
          have hl40 := Hlb.out _ (Hin.out y x Hlt.out hlx)
          have hN := HN.out
          have hin := Hin.out y x Hlt.out hlx
          have Hsu := hid (fun s => many_succ lb (y * ww + x) s)
          have hml := many_le lb (y * ww + x) (lb (y * ww + x))
          have f2 := HA.out.cell HW.out hl40
          obtain ⟨q, hq⟩ : ∃ q, q = lb (y * ww + x) := ⟨_, rfl⟩
          rw [← hq] at f1 f2 hl40 Hsu hml
          obtain ⟨z, hz⟩ : ∃ z, z = many lb (y * ww + x) q := ⟨_, rfl⟩
          rw [← hz] at f2 hml
          have Hz := hid hz
          have hqI : (q : Int) < 40 := by omega
          have hq0 : (0 : Int) ≤ q := by omega
          have hzI : (z : Int) ≤ 36 := by omega
          have Hq40 := hid hl40
          have Hset := hid (show NumA off 40 (fun s => many lb (y * ww + (x + 1)) s) (cur.setIfInBounds (off + q) (.int .i64 ((z + 1 : Nat) : Int))) from by
            have h1 := HA.out.set hl40 (z + 1)
            have h2 : (fun s => many lb (y * ww + (x + 1)) s) = fun j => if j = q then z + 1 else many lb (y * ww + x) j := by
              funext s
              rw [show y * ww + (x + 1) = y * ww + x + 1 by omega, Hsu.out s]
              by_cases hc : s = q
              · rw [if_pos hc, if_pos hc, hc, hz]
              · rw [if_neg hc, if_neg hc]
            rw [h2]; exact h1)
          clear hlx hx hN hin hml hq hz hl40
          go_wp2_with (refine wpList_store_blk rfl (.tmp 53) (.tmp 52) 3 rfl size3 b (off + q) (.int .i64 ((z : Int) + 1)) rfl rfl rfl cur 3 (MS.all w) HW.out (by have := HA.out.1; have := Hq40.out; omega) ?_; intro w9 k1 k2; have HW9 := hid k1; have HE9 := hid (HE.out.trans k2); clear k1 k2)
          go_roundw
          case rel => exact ⟨x + 1, _, Hlx.out, by go_num, Hset.out, HW9.out, HE9.out⟩
          case measure => have := Hlx.out; simp [intOf]; omega
        · have hxe : x = ww := by omega
          subst hxe
          clear hlx hx
          go_wp2
          go_roundw
          case rel => exact ⟨y + 1, cur, Hlt.out, by go_num, by rw [Nat.succ_mul]; exact HA.out, HW.out, HE.out⟩
          case measure => have := Hlt.out; simp [intOf]; omega
    · have hye : y = h := by omega
      subst hye
      clear hlt hy Hr Hro
      rw [Nat.mul_comm, ← HNe.out] at HA
      have Hml := hid (fun s => Nat.le_trans (many_le lb N s) HN.out)
      clear Hin Hlb HN HNe
      go_wp2_with (refine wpList_make_sl rfl (.const (.int .i64 40)) (.const (.int .i64 40)) 55 rfl 3 _ 1 8 und55 info3 .i64 .i64 40 rfl rfl (by omega) (by simp [maxLen]) _ HW.out ?_; intro v' w5 m5 j1 j2 j3 _; obtain ⟨b2, off2, c5, cur2, rfl, rfl, hd1, hd2, hfl⟩ := nums_made (by omega) j1; have HFl := hid hfl; have J5 := hid j2; have E5 := hid (HE.out.trans j3); clear j1 j2 j3 hfl)
      go_loopw [7] (fun v wr => ∃ i : Nat, ∃ cur2, i ≤ 40 ∧ v = .int .i64 i ∧ NumA off2 40 (fun z => hstU lb N i z) cur2 ∧ Has wr (blk b2 cur2 3 + (blk b cur 3 + MS.all w)) ∧ Ext w wr) (fun v _ => 40 - (intOf v).toNat)
      case atStart => exact ⟨0, cur2, Nat.zero_le _, rfl, HFl.out, J5.out, E5.out⟩
      case round =>
        clear HFl J5 E5
        obtain ⟨i, cur2, hi, rfl, hA2, hW2, hE2⟩ := hrel
        have HA2 := hid hA2
        have HW2 := hid hW2
        have HE2 := hid hE2
        clear hA2 hW2 hE2
        by_cases hlt : i < 40
        · have hltI : (i : Int) < 40 := by omega
          have Hlt := hid hlt
          have f0 := HA.out.cell HW2.out.right hlt
          have hm := Hml.out i
          have Hsu := hid (fun z => hstU_succ lb N i z)
          generalize many lb N i = q at *
          have hqI : (q : Int) < 40 := by omega
          have Hq := hid (show q < 40 by omega)
          have f1 := HA2.out.cell HW2.out (j := q) (by omega)
          have hzl := hstU_le lb N i q
          obtain ⟨z, hz⟩ : ∃ z, z = hstU lb N i q := ⟨_, rfl⟩
          rw [← hz] at f1 hzl
          have hzI : (z : Int) ≤ 40 := by omega
          have Hset := hid (show NumA off2 40 (fun z => hstU lb N (i + 1) z) (cur2.setIfInBounds (off2 + q) (.int .i64 ((z + 1 : Nat) : Int))) from by
            have h1 := HA2.out.set Hq.out (z + 1)
            have h2 : (fun z => hstU lb N (i + 1) z) = fun j => if j = q then z + 1 else hstU lb N i j := by
              funext s
              rw [Hsu.out s]
              by_cases hc : s = q
              · rw [if_pos hc, if_pos hc, hc, hz]
              · rw [if_neg hc, if_neg hc]
            rw [h2]; exact h1)
          clear hlt hi hm hzl hz
          go_wp2_with (refine wpList_store_blk rfl (.tmp 72) (.tmp 71) 3 rfl size3 b2 (off2 + q) (.int .i64 ((z : Int) + 1)) rfl rfl rfl cur2 3 (blk b cur 3 + MS.all w) HW2.out (by have := HA2.out.1; have := Hq.out; omega) ?_; intro w9 k1 k2; have HW9 := hid k1; have HE9 := hid (HE2.out.trans k2); clear k1 k2)
          go_roundw
          case rel => exact ⟨i + 1, _, Hlt.out, by go_num, Hset.out, HW9.out, HE9.out⟩
          case measure => have := Hlt.out; simp [intOf]; omega
        · have hie : i = 40 := by omega
          subst hie
          clear hlt hi
          go_wp2
          go_ret
          refine ⟨some ⟨b2, off2, none⟩, c5, blk b2 cur2 3, rfl, ⟨fun M hM => hM.of_all (HW2.out.eq (MS.add_assoc _ _ _).symm), HE2.out⟩, HW2.out.left, ?_⟩
          have hlen : (hstL lb N).length = 40 := by simp [hstL]
          refine ⟨some ⟨b2, off2, none⟩, c5, (hstL lb N).map (Value.int .i64), by rw [hlen], by rw [hlen]; exact hd1, hd2, fun _ => ⟨b2, off2, rfl, fun j u hu => ?_⟩, rowsQ_ints _ _⟩
          unfold hstL at hu
          rw [List.getElem?_map, List.getElem?_map] at hu
          by_cases hj : j < 40
          · rw [List.getElem?_range hj] at hu
            injection hu with hu
            rw [← hu]
            exact blk_at (HA2.out.2 j hj)
          · rw [List.getElem?_eq_none (by simp; omega)] at hu
            cases hu
/-- Two lists of as many numbers, the same. -/
theorem numbers_any {F : MS} {l : List Int} {A A' : Option Addr} {c c' : Nat} {w : World} (h : RdS F RT.int l (.slice A l.length c)) (h' : RdS F RT.int l (.slice A' l.length c')) (hl : l.length ≤ 1000) (hH : Has w F) :
    Calls Tryd.prog 57 #[.slice A l.length c, .slice A' l.length c'] w fun e w' => e = .returned (.bool true) ∧ Kp w w' := by
  have Hr := hid h
  have Hr' := hid h'
  have HF := hid hH
  have hnc := h.cells.2.1
  have hnc' := h'.cells.2.1
  obtain ⟨n, hn⟩ : ∃ n, n = l.length := ⟨_, rfl⟩
  rw [← hn] at Hr Hr' hl hnc hnc' ⊢
  have Hn := hid hn
  have hnI : (n : Int) ≤ 1000 := by omega
  clear h h' hH hn
  go_enter Tryd.func57, Tryd.ntmps57
  go_wp2
  go_loopw [5] (fun v wr => ∃ i : Nat, i ≤ n ∧ v = .int .i64 i ∧ Kp w wr) (fun v _ => n - (intOf v).toNat)
  case atStart => exact ⟨0, Nat.zero_le _, rfl, Kp.refl _⟩
  case round =>
    obtain ⟨i, hi, rfl, hK⟩ := hrel
    have HK := hid hK
    clear hK
    by_cases hlt : i < n
    · have hltI : (i : Int) < n := by omega
      have Hlt := hid hlt
      obtain ⟨a, ha⟩ : ∃ a, l[i]? = some a := ⟨_, List.getElem?_eq_getElem (by have := Hn.out; omega)⟩
      obtain ⟨b, o, hA, hat⟩ := Hr.out.getInt ha
      obtain ⟨b', o', hA', hat'⟩ := Hr'.out.getInt ha
      subst hA
      subst hA'
      have f0 := hat.c0 (HK.out.1 _ HF.out)
      have f1 := hat'.c0 (HK.out.1 _ HF.out)
      clear hlt hi ha hat hat'
      go_wp2
      go_quiet (fail)
      go_simp
      generalize hwd : World.drewN _ _ = wd
      have HKd := hid (show Kp w wd by rw [← hwd]; exact Kp.drewN HK.out _)
      clear hwd f0 f1
      go_wp2
      go_roundw
      case rel => exact ⟨i + 1, Hlt.out, by go_num, HKd.out⟩
      case measure => have := Hlt.out; simp [intOf]; omega
    · have hie : i = n := by omega
      subst hie
      clear hlt hi
      go_wp2
      go_ret
      exact ⟨rfl, HK.out⟩
end Go.Proofs.YteibbnmlmbhkpaaDoor

namespace Go.Proofs.YteibbnmlmbhkpaaDoor
open Go.RowKit
set_option linter.unusedVariables false
set_option linter.unusedSimpArgs false
set_option maxHeartbeats 4000000
set_option maxRecDepth 100000

/-- The labels, as numbers. -/
def lbl (p : List ByteArray) (g : Gd) (f : Nat → Int) (i : Nat) : Nat := (f (nmI p g i)).toNat
theorem OInv.rows {p : List ByteArray} {g : Gd} {f : Nat → Int} {n : Nat} (hp : PatOk p) (hg : IsLat p g) (h : OInv p g f (wd p * p.length) n) : RowsOf (labRows p g f p.length) (lbl p g f) (wd p) p.length ∧ (∀ i, i < wd p * p.length → lbl p g f i < 40) ∧ Lab p (lbl p g f) n := by
  have hL := h.lab hp hg
  refine ⟨⟨labRows_len _ _ _ _, fun y hy => ⟨labRow p g f y (wd p), ?_, labRow_len _ _ _ _ _, fun x hx => ?_⟩⟩, fun i hi => ?_, hL⟩
  · unfold labRows
    rw [List.getElem?_map, List.getElem?_range hy]; rfl
  · unfold labRow
    rw [List.getElem?_map, List.getElem?_range hx]
    have h1 : (y + 1) * wd p ≤ p.length * wd p := Nat.mul_le_mul_right _ hy
    rw [Nat.succ_mul, Nat.mul_comm p.length] at h1
    have h2 := h.don (y * wd p + x) (by omega)
    show some (f (nmI p g (y * wd p + x))) = some (((f (nmI p g (y * wd p + x))).toNat : Nat) : Int)
    rw [show (((f (nmI p g (y * wd p + x))).toNat : Nat) : Int) = f (nmI p g (y * wd p + x)) by omega]
  · have h1 : lbl p g f i < n := hL.lt i hi
    have h2 := hL.le
    have h3 := hp.area
    omega
/-- What sizes makes of what Orbits has handed back. -/
theorem orbsizes_any {F : MS} {p : List ByteArray} {rows : List (List Int)} {A : Option Addr} {c : Nat} {w : World} (hr : RdS F (RT.sl RT.int) rows (.slice A rows.length c)) (hH : Has w F) (hp : PatOk p)
    (ho : ∃ g f n, IsLat p g ∧ OInv p g f (wd p * p.length) n ∧ rows = labRows p g f p.length) :
    Calls Tryd.prog 32 #[.slice A rows.length c] w fun e w' => ∃ A' c' X L, e = .returned (.slice A' 40 c') ∧ Kp w w' ∧ Has w' X ∧ RdS X RT.int L (.slice A' 40 c') ∧ ∃ lb n, Lab p lb n ∧ L = hstL lb (wd p * p.length) := by
  obtain ⟨g, f, n, hg, hi, rfl⟩ := ho
  obtain ⟨h1, h2, h3⟩ := hi.rows hp hg
  exact (sizes_any hr hH h1 hp.w6 hp.h6 h2).mono fun e w' h => by
    obtain ⟨A', c', X, e1, e2, e3, e4⟩ := h
    exact ⟨A', c', X, _, e1, e2, e3, e4, _, n, h3, rfl⟩
theorem rd_all_ints {F : MS} {w : World} {l : List Int} {v : Value} (h : RdS F RT.int l v) (hH : Has w F) : RdS (MS.all w) RT.int l v := rd_all (F := F) (T := RT.int) (fun _ _ h => h) h hH
theorem rd_all_rows {F : MS} {w : World} {l : List (List Int)} {v : Value} (h : RdS F (RT.sl RT.int) l v) (hH : Has w F) : RdS (MS.all w) (RT.sl RT.int) l v :=
  rd_all (F := F) (T := RT.sl RT.int) (fun a cs ⟨v, h1, h2⟩ => ⟨v, h1, rd_all_ints h2 hH⟩) h hH
theorem like_any {F : MS} {q : List ByteArray} {nm : ByteArray} {L : List Int} {A Am : Option Addr} {c cm : Nat} {w : World} (h : Giv F q A c) (hk : KinOk F) (hH : Has w F) (hq : isPat q = true) (hnm : ∀ g, IsLat q g → nm = nameOf q g)
    (hL : RdS F RT.int L (.slice Am 40 cm)) (hh : ∀ lb n, Lab q lb n → hstL lb (wd q * q.length) = L) :
    Calls Tryd.prog 31 #[.slice A q.length c, .string nm, .slice Am 40 cm] w fun e w' => e = .returned (.bool true) ∧ Kp w w' := by
  have HF := hid hH
  have HL := hid hL
  have Hgr := hid (show Calls Tryd.prog 15 #[.slice A q.length c] w fun e w' => e = .returned (.tuple #[.string nm, .int .i64 0]) ∧ Kp w w' from (Group_any h hk hH).mono fun e w' he => by
    obtain ⟨nm', er, h1, h2, h3, _⟩ := he
    obtain ⟨⟨g, hg, h4⟩, h5⟩ := h3 hq
    rw [h4, h5, ← hnm g hg] at h1
    exact ⟨h1, h2⟩)
  have Hor := hid (fun (W : World) (hW : Has W F) => show Calls Tryd.prog 30 #[.slice A q.length c] W fun e w' => ∃ A' c' rows X, e = .returned (.tuple #[.slice A' (List.length rows) c', .int .i64 0]) ∧ Kp W w' ∧ Has w' X ∧ RdS X (RT.sl RT.int) rows (.slice A' (List.length rows) c') ∧ ∃ g f n, IsLat q g ∧ OInv q g f (wd q * q.length) n ∧ rows = labRows q g f q.length from (orbits_ok h hk hW hq).mono fun e w' he => by
    obtain ⟨A', c', er, rows, X, h1, h2, h3, h4, _, h5⟩ := he
    obtain ⟨h6, h7⟩ := h5 hq
    rw [h6] at h1
    exact ⟨A', c', rows, X, h1, h2, h3, h4, h7⟩)
  have Hp := hid (isPat.ok hq).1
  have Hh := hid hh
  clear h hk hH hq hnm hL hh
  go_enter Tryd.func31, Tryd.ntmps31
  go_wp2_with (first
    | (go_at_call 57; refine Hnu.out.mono ?_; rintro e4 w4 ⟨rfl, k4⟩; have K4 := hid (K3.out.trans k4); clear k4)
    | (go_at_call 32; refine (orbsizes_any kr.out HX2.out Hp.out Ho.out).mono ?_; rintro e3 w3 ⟨A3, c3, X3, L3, rfl, k3, hX3, hr3, lb, n, hlab, hl3⟩; rw [Hh.out lb n hlab] at hl3; subst hl3; have K3 := hid (K2.out.trans k3); have hl3 := hr3.cells.1; have Hnu := hid (show Calls Tryd.prog 57 #[.slice A3 40 c3, .slice Am 40 cm] w3 fun e w' => e = .returned (.bool true) ∧ Kp w3 w' from (by have h1 := rd_all_ints hr3 hX3; have h2 := rd_all_ints HL.out (K3.out.1 _ HF.out); rw [hl3] at h1 h2; have h3 := numbers_any h1 h2 (by omega) (Has.all w3); rw [← hl3] at h3; exact h3)); clear k3 hX3 hr3 hlab hl3)
    | (go_at_call 30; refine (Hor.out _ (K1.out.1 _ HF.out)).mono ?_; rintro e2 w2 ⟨A2, c2, rows, X2, rfl, k2, hX2, hr2, ho⟩; have K2 := hid (K1.out.trans k2); have HX2 := hid hX2; have kr := hid hr2; have Ho := hid ho; clear k2 hX2 hr2 ho)
    | (go_at_call 15; refine Hgr.out.mono ?_; rintro e1 w1 ⟨rfl, k1⟩; have K1 := hid k1; clear k1))
  go_ret
  exact ⟨rfl, K4.out⟩
end Go.Proofs.YteibbnmlmbhkpaaDoor
