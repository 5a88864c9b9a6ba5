/-
  Plain: what PatternSame compares. What PatternSame asks of patterns that answer each other; colours exchanged.
-/
import Derived.Test.YteibbnmlmbhkpaaDoorOSame
import Derived.Test.YteibbnmlmbhkpaaDoorMW6
import Derived.Test.YteibbnmlmbhkpaaDoorSW4
namespace Go.Proofs.YteibbnmlmbhkpaaDoor
set_option linter.unusedVariables false
set_option linter.unusedSimpArgs false
set_option maxHeartbeats 2000000

theorem isPat.mk {p : List ByteArray} (hl : 1 ≤ p.length ∧ p.length ≤ 6) (hw : 1 ≤ wd p ∧ wd p ≤ 6) (hr : ∀ s ∈ p, s.size = wd p ∧ abB s = true) : isPat p = true := by
  unfold isPat
  rw [decide_eq_true ⟨hl.1, hl.2, hw.1, hw.2⟩, Bool.true_and, Bool.not_eq_true', List.any_eq_false]
  intro s hs
  unfold badRow
  rw [(hr s hs).1, (hr s hs).2]
  simp
/-! ### A move applied -/
theorem un_to {k : Nat} (hk : k < 8) (e f x y : Int) : unX (knd k e f) (lX k x y + e) (lY k x y + f) = x ∧ unY (knd k e f) (lX k x y + e) (lY k x y + f) = y := by
  rcases k8_cases hk with rfl | rfl | rfl | rfl | rfl | rfl | rfl | rfl <;> simp [lX, lY, unX, unY, knd, kinds] <;> omega
theorem un_shift {p : List ByteArray} {k : Nat} (hk : k < 8) (e f X Y s t : Int) : ∃ s' t', unX (knd k e f) (X + apW p (knd k e f) * s) (Y + apH p (knd k e f) * t) = unX (knd k e f) X Y + wd p * s' ∧ unY (knd k e f) (X + apW p (knd k e f) * s) (Y + apH p (knd k e f) * t) = unY (knd k e f) X Y + p.length * t' := by
  have hn : ∀ a b : Int, a * -b = -(a * b) := fun a b => Int.mul_neg a b
  rcases k8_cases hk with rfl | rfl | rfl | rfl | rfl | rfl | rfl | rfl <;> simp [unX, unY, knd, kinds, apW, apH]
  · exact ⟨⟨s, by omega⟩, ⟨t, by omega⟩⟩
  · exact ⟨⟨t, by omega⟩, ⟨-s, by rw [hn]; omega⟩⟩
  · exact ⟨⟨-s, by rw [hn]; omega⟩, ⟨-t, by rw [hn]; omega⟩⟩
  · exact ⟨⟨-t, by rw [hn]; omega⟩, ⟨s, by omega⟩⟩
  · exact ⟨⟨s, by omega⟩, ⟨-t, by rw [hn]; omega⟩⟩
  · exact ⟨⟨-s, by rw [hn]; omega⟩, ⟨t, by omega⟩⟩
  · exact ⟨⟨t, by omega⟩, ⟨s, by omega⟩⟩
  · exact ⟨⟨-t, by rw [hn]; omega⟩, ⟨-s, by rw [hn]; omega⟩⟩
theorem ap_mvs {p : List ByteArray} {m : Mv} (h : apOk p m = true) : ∃ k, k < 8 ∧ Mvs k m.e m.f p (apL p m (apH p m)) ∧ Sides k p (apL p m (apH p m)) := by
  unfold apOk at h
  rw [Bool.and_eq_true, decide_eq_true_eq] at h
  obtain ⟨hq, h0, _⟩ := h
  have hp := (isPat.ok hq).1
  obtain ⟨k, hk, hm⟩ := kindOf_kn h0
  refine ⟨k, hk, Mvs.of fun x y => ?_, ?_⟩
  · rw [ap_col hp]
    have e1 : (lX k x y + m.e) % (apW p m : Int) = (lX k x y + m.e) + apW p m * -((lX k x y + m.e) / (apW p m : Int)) := by rw [Int.mul_neg, Int.emod_def]; omega
    have e2 : (lY k x y + m.f) % (apH p m : Int) = (lY k x y + m.f) + apH p m * -((lY k x y + m.f) / (apH p m : Int)) := by rw [Int.mul_neg, Int.emod_def]; omega
    rw [e1, e2]
    generalize -((lX k x y + m.e) / (apW p m : Int)) = s
    generalize -((lY k x y + m.f) / (apH p m : Int)) = t
    obtain ⟨e, he⟩ : ∃ e, e = m.e := ⟨_, rfl⟩
    obtain ⟨f, hf⟩ : ∃ f, f = m.f := ⟨_, rfl⟩
    rw [← he, ← hf] at hm ⊢
    rw [hm]
    obtain ⟨s', t', h1, h2⟩ := un_shift (p := p) hk e f (lX k x y + e) (lY k x y + f) s t
    rw [h1, h2, (un_to hk e f x y).1, (un_to hk e f x y).2, col_shift]
  · unfold Sides
    rw [ap_wd hp, apL_len]
    obtain ⟨e, he⟩ : ∃ e, e = m.e := ⟨_, rfl⟩
    obtain ⟨f, hf⟩ : ∃ f, f = m.f := ⟨_, rfl⟩
    rw [← he, ← hf] at hm
    rw [hm]
    rcases k8_cases hk with rfl | rfl | rfl | rfl | rfl | rfl | rfl | rfl <;> simp [apW, apH, knd, kinds]
/-! ### The same floor -/
theorem same_mvs {p q : List ByteArray} (h : ∀ x y, col q x y = col p x y) : Mvs 0 0 0 p q := Mvs.of fun x y => by
  show col q (x + 0) (y + 0) = _
  rw [Int.add_zero, Int.add_zero, h]
/-- The pattern cut to its least period. -/
theorem cut_facts {p : List ByteArray} (hq : isPat p = true) {x n : Nat} (hx : IsMin (fun n => shB p n 0) (wd p) x) (hn : IsMin (fun n => shB p 0 n) p.length n) : isPat (cutL p x n) = true ∧ ∀ X Y, col (cutL p x n) X Y = col p X Y := by
  obtain ⟨hp, hab⟩ := isPat.ok hq
  have hx1 := hx.n1
  have hxm := hx.nm
  have hn1 := hn.n1
  have hnm := hn.nm
  have h6 := hp.h6
  have w6 := hp.w6
  have hsX : Sy p 0 x 0 := (shB_iff hp (x := x) (y := 0) (by omega) (by omega)).1 (by
    rcases Nat.lt_or_ge x (wd p) with h | h
    · exact hx.hit h
    · rw [show x = wd p by omega]
      exact (shB_iff hp (x := wd p) (y := 0) (by omega) (by omega)).2 (by have := Sy.perX p 1; rwa [Int.mul_one] at this))
  have hsY : Sy p 0 0 n := (shB_iff hp (x := 0) (y := n) (by omega) (by omega)).1 (by
    rcases Nat.lt_or_ge n p.length with h | h
    · exact hn.hit h
    · rw [show n = p.length by omega]
      exact (shB_iff hp (x := 0) (y := p.length) (by omega) (by omega)).2 (by have := Sy.perY p 1; rwa [Int.mul_one] at this))
  have hlen : (cutL p x n).length = n := cutL_len hnm
  have hget : ∀ y : Nat, y < n → (cutL p x n).getD y empty = (p.getD y empty).extract 0 x := fun y hy => by
    unfold cutL
    rw [List.getD_eq_getElem?_getD, List.getElem?_map, List.getElem?_take, if_pos hy, get_getD empty (show y < p.length by omega)]
    rfl
  have hrow : ∀ y : Nat, y < n → ((p.getD y empty).extract 0 x).size = x := fun y hy => by
    have h1 := hp.rows _ (List.mem_of_getElem? (get_getD empty (show y < p.length by omega)))
    rw [ByteArray.size_extract, h1]; omega
  have hwd : wd (cutL p x n) = x := by unfold wd; rw [hget 0 (by omega)]; exact hrow 0 (by omega)
  constructor
  · refine isPat.mk (by omega) (by omega) fun s hs => ?_
    unfold cutL at hs
    obtain ⟨t, ht, rfl⟩ := List.mem_map.1 hs
    have htp := List.mem_of_mem_take ht
    rw [hwd]
    refine ⟨by rw [ByteArray.size_extract, hp.rows t htp]; omega, ?_⟩
    have h2 := (abB_iff t).1 (hab t htp)
    rw [abB_iff]
    intro b hb
    refine h2 b ?_
    rw [ByteArray.data_extract, Array.toList_extract, List.extract_eq_take_drop] at hb
    exact List.mem_of_mem_drop (List.mem_of_mem_take hb)
  · intro X Y
    have e3 := Int.emod_nonneg X (show (x : Int) ≠ 0 by omega)
    have e4 := Int.emod_lt_of_pos X (show (0 : Int) < x by omega)
    have e5 := Int.emod_nonneg Y (show (n : Int) ≠ 0 by omega)
    have e6 := Int.emod_lt_of_pos Y (show (0 : Int) < n by omega)
    have h1 : col (cutL p x n) X Y = col p (X % x) (Y % n) := by
      unfold col
      rw [hwd, hlen, hget _ (by omega), Int.emod_eq_of_lt e3 (show X % x < wd p by omega), Int.emod_eq_of_lt e5 (show Y % n < p.length by omega)]
      unfold bt
      congr 1
      have hsz := hp.rows _ (List.mem_of_getElem? (get_getD empty (show (Y % n).toNat < p.length by omega)))
      generalize p.getD _ empty = t at hsz
      have hsz' : t.data.size = wd p := hsz
      rw [ByteArray.data_extract, Array.getD_eq_getD_getElem?, Array.getD_eq_getD_getElem?, Array.getElem?_extract, if_pos (by omega), Nat.zero_add]
    rw [h1]
    have h2 := hsX.mul (-(X / x))
    have h3 := hsY.mul (-(Y / n))
    have h4 := h2 X Y
    have h5 := h3 (X % x) Y
    simp only [lX, lY] at h4 h5
    have a1 : X + -(X / (x : Int)) * x = X % x := by rw [Int.neg_mul, Int.mul_comm, Int.emod_def]; omega
    have a2 : Y + -(Y / (n : Int)) * n = Y % n := by rw [Int.neg_mul, Int.mul_comm, Int.emod_def]; omega
    rw [a1, Int.mul_zero, Int.add_zero] at h4
    rw [a2, Int.mul_zero, Int.add_zero] at h5
    rw [h5, h4]
/-- The pattern beside itself. -/
def wideL (p : List ByteArray) (y : Nat) : List ByteArray := (p.take y).map fun s => s ++ s
theorem wideL_len {p : List ByteArray} {y : Nat} (h : y ≤ p.length) : (wideL p y).length = y := by unfold wideL; rw [List.length_map, List.length_take]; omega
theorem wideL_succ {p : List ByteArray} {y : Nat} {s : ByteArray} (h : p[y]? = some s) : wideL p (y + 1) = wideL p y ++ [s ++ s] := by
  unfold wideL; rw [take_more h, List.map_append]; rfl
theorem wide_facts {p : List ByteArray} (hq : isPat p = true) (h2 : 2 * wd p ≤ 6) : isPat (wideL p p.length) = true ∧ ∀ X Y, col (wideL p p.length) X Y = col p X Y := by
  obtain ⟨hp, hab⟩ := isPat.ok hq
  have h1 := hp.h1
  have h6 := hp.h6
  have w1 := hp.w1
  have hW : wideL p p.length = p.map fun s => s ++ s := by unfold wideL; rw [List.take_length]
  rw [hW]
  have hget : ∀ y : Nat, y < p.length → (p.map fun s => s ++ s).getD y empty = p.getD y empty ++ p.getD y empty := fun y hy => by
    rw [List.getD_eq_getElem?_getD, List.getElem?_map, get_getD empty hy]; rfl
  have hwd : wd (p.map fun s => s ++ s) = 2 * wd p := by
    unfold wd
    rw [hget 0 (by omega), ByteArray.size_append]; omega
  constructor
  · refine isPat.mk (by rw [List.length_map]; omega) (by omega) fun s hs => ?_
    obtain ⟨t, ht, rfl⟩ := List.mem_map.1 hs
    rw [hwd]
    refine ⟨by rw [ByteArray.size_append, hp.rows t ht]; omega, ?_⟩
    have h3 := (abB_iff t).1 (hab t ht)
    rw [abB_iff]
    intro b hb
    refine h3 b ?_
    have hb' : b ∈ (t ++ t).data := Array.mem_toList_iff.1 hb
    rw [ByteArray.data_append, Array.mem_append] at hb'
    exact Array.mem_toList_iff.2 (hb'.elim id id)
  · intro X Y
    have e3 := Int.emod_nonneg X (show (wd p : Int) ≠ 0 by omega)
    have e4 := Int.emod_lt_of_pos X (show (0 : Int) < wd p by omega)
    have e5 := Int.emod_nonneg Y (show (p.length : Int) ≠ 0 by omega)
    have e6 := Int.emod_lt_of_pos Y (show (0 : Int) < p.length by omega)
    have e7 := Int.emod_nonneg X (show (2 * (wd p : Int)) ≠ 0 by omega)
    have e8 := Int.emod_lt_of_pos X (show (0 : Int) < 2 * (wd p : Int) by omega)
    unfold col
    rw [hwd, List.length_map, hget _ (by omega)]
    unfold bt
    congr 1
    have hsz := hp.rows _ (List.mem_of_getElem? (get_getD empty (show (Y % p.length).toNat < p.length by omega)))
    generalize p.getD _ empty = t at hsz
    have hsz' : t.data.size = wd p := hsz
    rw [ByteArray.data_append, Array.getD_eq_getD_getElem?, Array.getD_eq_getD_getElem?]
    have hm : X % (wd p : Int) = (X % ((2 * wd p : Nat) : Int)) % wd p := by
      rw [Int.emod_emod_of_dvd X ⟨2, by rw [Int.natCast_mul, Int.mul_comm]; rfl⟩]
    rw [hm]
    have e7' : 0 ≤ X % ((2 * wd p : Nat) : Int) := by rw [Int.natCast_mul]; exact e7
    have e8' : X % ((2 * wd p : Nat) : Int) < 2 * wd p := by rw [Int.natCast_mul]; exact e8
    generalize X % ((2 * wd p : Nat) : Int) = Z at *
    by_cases hz : Z < wd p
    · rw [Array.getElem?_append_left (by omega), Int.emod_eq_of_lt e7' hz]
    · rw [Array.getElem?_append_right (by omega)]
      have : Z % (wd p : Int) = Z - wd p := by
        rw [show Z = Z - wd p + wd p by omega, Int.add_emod_right, Int.emod_eq_of_lt (by omega) (by omega)]; omega
      rw [this, hsz', show (Z - (wd p : Int)).toNat = Z.toNat - wd p by omega]
end Go.Proofs.YteibbnmlmbhkpaaDoor

namespace Go.Proofs.YteibbnmlmbhkpaaDoor
open Go.RowKit
set_option linter.unusedVariables false
set_option linter.unusedSimpArgs false
set_option maxHeartbeats 2000000
set_option maxRecDepth 100000

theorem Giv.of {F : MS} {q : List ByteArray} {A : Option Addr} {c : Nat} (h : RdS F RT.str q (.slice A q.length c)) (hq : isPat q = true) : Giv F q A c :=
  ⟨h, by have := (isPat.ok hq).1.h6; omega, fun s hs => by have h1 := (isPat.ok hq).1.rows s hs; have h2 := (isPat.ok hq).1.w6; omega⟩
theorem group_of {F Y : MS} {p q : List ByteArray} {g : Gd} {A : Option Addr} {c k : Nat} {a b : Int} {W : World} (hp : PatOk p) (hg : IsLat p g) (hq : isPat q = true) (hk8 : k < 8) (h : Mvs k a b p q) (hr : RdS Y RT.str q (.slice A q.length c)) (hY : Has W Y) (hk : KinOk F) (hF : Has W F) :
    Calls Tryd.prog 15 #[.slice A q.length c] W fun e w' => e = .returned (.tuple #[.string (nameOf p g), .int .i64 0]) ∧ Kp W w' :=
  (Group_any (Giv.of (rd_all_str hr hY) hq) (hk.all hF) (Has.all W)).mono fun e w' he => by
    obtain ⟨nm', er, h1, h2, h3, _⟩ := he
    obtain ⟨⟨g', hg', h4⟩, h5⟩ := h3 hq
    rw [h4, h5, name_same hp (isPat.ok hq).1 hg hg' hk8 h] at h1
    exact ⟨h1, h2⟩
theorem like_of {F Y Z : MS} {p q : List ByteArray} {g : Gd} {lb : Nat → Nat} {A Am : Option Addr} {c cm k n : Nat} {a b : Int} {W : World} (hp : PatOk p) (hg : IsLat p g) (hq : isPat q = true) (hk8 : k < 8) (h : Mvs k a b p q) (hs : Sides k p q) (hr : RdS Y RT.str q (.slice A q.length c)) (hY : Has W Y) (hk : KinOk F) (hF : Has W F)
    (hlb : Lab p lb n) (hL : RdS Z RT.int (hstL lb (wd p * p.length)) (.slice Am 40 cm)) (hZ : Has W Z) :
    Calls Tryd.prog 31 #[.slice A q.length c, .string (nameOf p g), .slice Am 40 cm] W fun e w' => e = .returned (.bool true) ∧ Kp W w' :=
  like_any (F := MS.all W) (Giv.of (rd_all_str hr hY) hq) (hk.all hF) (Has.all W) hq (fun g' hg' => (name_same hp (isPat.ok hq).1 hg hg' hk8 h).symm) (rd_all_ints hL hZ) (fun lb' n' hlb' => by
    unfold hstL
    apply List.map_congr_left
    intro z _
    rw [sizes_same hk8 hp (isPat.ok hq).1 h hs hlb hlb' z])
/-! ### Colours exchanged -/
def swB (s : Nat → Nat) (b : UInt8) : UInt8 := UInt8.ofNat (97 + s (b.toNat - 97))
def swRow (s : Nat → Nat) (r : ByteArray) (x : Nat) : List UInt8 := (r.data.toList.take x).map (swB s)
def swS (s : Nat → Nat) (r : ByteArray) : ByteArray := ⟨(r.data.toList.map (swB s)).toArray⟩
def swL (s : Nat → Nat) (p : List ByteArray) (y : Nat) : List ByteArray := (p.take y).map (swS s)
theorem swL_len {s : Nat → Nat} {p : List ByteArray} {y : Nat} (h : y ≤ p.length) : (swL s p y).length = y := by unfold swL; rw [List.length_map, List.length_take]; omega
theorem swL_succ {s : Nat → Nat} {p : List ByteArray} {y : Nat} {r : ByteArray} (h : p[y]? = some r) : swL s p (y + 1) = swL s p y ++ [swS s r] := by
  unfold swL; rw [take_more h, List.map_append]; rfl
theorem swRow_succ {s : Nat → Nat} {r : ByteArray} {x : Nat} {b : UInt8} (h : r.data.toList[x]? = some b) : swRow s r (x + 1) = swRow s r x ++ [swB s b] := by
  unfold swRow; rw [take_more h, List.map_append]; rfl
theorem swRow_len {s : Nat → Nat} {r : ByteArray} {x : Nat} (h : x ≤ r.size) : (swRow s r x).length = x := by
  unfold swRow
  have : r.size = r.data.toList.length := (Array.length_toList (xs := r.data)).symm
  rw [List.length_map, List.length_take]; omega
theorem swRow_all {s : Nat → Nat} {r : ByteArray} : (⟨(swRow s r r.size).toArray⟩ : ByteArray) = swS s r := by
  unfold swRow swS
  rw [show r.size = r.data.toList.length from (Array.length_toList (xs := r.data)).symm, List.take_length]
theorem swB_val {s : Nat → Nat} (hs : ∀ i, i < 4 → s i < 4) {b : UInt8} (hb : ab b = true) : (swB s b).toNat = 97 + s (b.toNat - 97) := by
  unfold ab at hb
  rw [decide_eq_true_eq] at hb
  have := hs (b.toNat - 97) (by omega)
  unfold swB
  rw [UInt8.toNat_ofNat']
  omega
theorem swap_facts {p : List ByteArray} (hq : isPat p = true) {s : Nat → Nat} (hs : ∀ i, i < 4 → s i < 4) : isPat (swL s p p.length) = true ∧ Sides 0 p (swL s p p.length) ∧ ((∀ i j, i < 4 → j < 4 → s i = s j → i = j) → Mvs 0 0 0 p (swL s p p.length)) := by
  obtain ⟨hp, hab⟩ := isPat.ok hq
  have h1 := hp.h1
  have h6 := hp.h6
  have w1 := hp.w1
  have w6 := hp.w6
  have hW : swL s p p.length = p.map (swS s) := by unfold swL; rw [List.take_length]
  rw [hW]
  have hget : ∀ y : Nat, y < p.length → (p.map (swS s)).getD y empty = swS s (p.getD y empty) := fun y hy => by
    rw [List.getD_eq_getElem?_getD, List.getElem?_map, get_getD empty hy]; rfl
  have hsize : ∀ r : ByteArray, (swS s r).size = r.size := fun r => by
    unfold swS
    show (List.toArray _).size = _
    simp
  have hwd : wd (p.map (swS s)) = wd p := by
    unfold wd
    rw [hget 0 (by omega), hsize]
  refine ⟨isPat.mk (by rw [List.length_map]; omega) (by omega) fun r hr => ?_, ?_, fun hinj => ?_⟩
  · obtain ⟨t, ht, rfl⟩ := List.mem_map.1 hr
    rw [hwd]
    refine ⟨by rw [hsize]; exact hp.rows t ht, ?_⟩
    have h3 := (abB_iff t).1 (hab t ht)
    rw [abB_iff]
    intro b hb
    unfold swS at hb
    have hb' : b ∈ t.data.toList.map (swB s) := by simpa using hb
    obtain ⟨c, hc, rfl⟩ := List.mem_map.1 hb'
    have h4 := h3 c hc
    have h5 := swB_val hs h4
    unfold ab at h4 ⊢
    rw [decide_eq_true_eq] at h4 ⊢
    have := hs (c.toNat - 97) (by omega)
    omega
  · unfold Sides
    simp [hwd]
  · have hcol : ∀ x y : Int, col (p.map (swS s)) x y = 97 + (s ((col p x y).toNat - 97) : Nat) ∧ 97 ≤ col p x y ∧ col p x y ≤ 100 := fun x y => by
      have e3 := Int.emod_nonneg x (show (wd p : Int) ≠ 0 by omega)
      have e4 := Int.emod_lt_of_pos x (show (0 : Int) < wd p by omega)
      have e5 := Int.emod_nonneg y (show (p.length : Int) ≠ 0 by omega)
      have e6 := Int.emod_lt_of_pos y (show (0 : Int) < p.length by omega)
      unfold col
      rw [hwd, List.length_map, hget _ (by omega)]
      have hr := List.mem_of_getElem? (get_getD empty (show (y % p.length).toNat < p.length by omega))
      have hsz := hp.rows _ hr
      have hbb := (abB_iff _).1 (hab _ hr)
      generalize p.getD _ empty = t at *
      have hsz' : t.data.toList.length = wd p := by rw [Array.length_toList]; exact hsz
      obtain ⟨b, hb⟩ : ∃ b, t.data.toList[(x % wd p).toNat]? = some b := ⟨_, List.getElem?_eq_getElem (by omega)⟩
      have h7 := hbb b (List.mem_of_getElem? hb)
      have e7 : bt t (x % wd p).toNat = (b.toNat : Int) := by
        unfold bt
        rw [Array.getD_eq_getD_getElem?, ← Array.getElem?_toList, hb]; rfl
      have e8 : bt (swS s t) (x % wd p).toNat = ((swB s b).toNat : Int) := by
        unfold bt swS
        rw [Array.getD_eq_getD_getElem?, ← Array.getElem?_toList]
        show ((((List.map (swB s) t.data.toList).toArray.toList[(x % wd p).toNat]?).getD 0).toNat : Int) = _
        rw [List.toList_toArray, List.getElem?_map, hb]; rfl
      rw [e7, e8, swB_val hs h7]
      unfold ab at h7
      rw [decide_eq_true_eq] at h7
      refine ⟨by rw [Int.toNat_natCast]; omega, by omega, by omega⟩
    intro x y x' y'
    show col (p.map (swS s)) (x + 0) (y + 0) = col (p.map (swS s)) (x' + 0) (y' + 0) ↔ _
    rw [Int.add_zero, Int.add_zero, Int.add_zero, Int.add_zero]
    obtain ⟨h1, h2, h3⟩ := hcol x y
    obtain ⟨h4, h5, h6⟩ := hcol x' y'
    rw [h1, h4]
    constructor
    · intro he
      have := hinj ((col p x y).toNat - 97) ((col p x' y').toNat - 97) (by omega) (by omega) (by omega)
      omega
    · intro he; rw [he]
/-- Which colours come about. -/
def useF (s : Nat → Nat) (i j : Nat) : Bool := (List.range i).any fun t => s t == j
theorem useF_succ (s : Nat → Nat) (i j : Nat) : useF s (i + 1) j = if j = s i then true else useF s i j := by
  unfold useF
  rw [List.range_succ, List.any_append]
  by_cases h : j = s i
  · rw [if_pos h]; simp [h]
  · rw [if_neg h]
    have : (s i == j) = false := by rw [beq_eq_false_iff_ne]; exact fun hc => h hc.symm
    simp [this]
theorem use_inj {s : Nat → Nat} (hs : ∀ i, i < 4 → s i < 4) (h0 : useF s 4 0 = true) (h1 : useF s 4 1 = true) (h2 : useF s 4 2 = true) (h3 : useF s 4 3 = true) : ∀ i j, i < 4 → j < 4 → s i = s j → i = j := by
  have key : ∀ a b c d : Fin 4, ((a = 0 ∨ b = 0 ∨ c = 0 ∨ d = 0) ∧ (a = 1 ∨ b = 1 ∨ c = 1 ∨ d = 1) ∧ (a = 2 ∨ b = 2 ∨ c = 2 ∨ d = 2) ∧ (a = 3 ∨ b = 3 ∨ c = 3 ∨ d = 3)) → a ≠ b ∧ a ≠ c ∧ a ≠ d ∧ b ≠ c ∧ b ≠ d ∧ c ≠ d := by decide
  have hx : ∀ v : Nat, ∀ hv : v < 4, useF s 4 v = true → (⟨s 0, hs 0 (by omega)⟩ : Fin 4) = ⟨v, hv⟩ ∨ (⟨s 1, hs 1 (by omega)⟩ : Fin 4) = ⟨v, hv⟩ ∨ (⟨s 2, hs 2 (by omega)⟩ : Fin 4) = ⟨v, hv⟩ ∨ (⟨s 3, hs 3 (by omega)⟩ : Fin 4) = ⟨v, hv⟩ := fun v hv h => by
    unfold useF at h
    rw [List.any_eq_true] at h
    obtain ⟨t, ht, he⟩ := h
    rw [List.mem_range] at ht
    rw [beq_iff_eq] at he
    simp only [Fin.mk.injEq]
    have : t = 0 ∨ t = 1 ∨ t = 2 ∨ t = 3 := by omega
    rcases this with rfl | rfl | rfl | rfl
    · exact .inl he
    · exact .inr (.inl he)
    · exact .inr (.inr (.inl he))
    · exact .inr (.inr (.inr he))
  obtain ⟨k1, k2, k3, k4, k5, k6⟩ := key _ _ _ _ ⟨hx 0 (by omega) h0, hx 1 (by omega) h1, hx 2 (by omega) h2, hx 3 (by omega) h3⟩
  simp only [ne_eq, Fin.mk.injEq] at k1 k2 k3 k4 k5 k6
  intro i j hi hj he
  have hi' : i = 0 ∨ i = 1 ∨ i = 2 ∨ i = 3 := by omega
  have hj' : j = 0 ∨ j = 1 ∨ j = 2 ∨ j = 3 := by omega
  rcases hi' with rfl | rfl | rfl | rfl <;> rcases hj' with rfl | rfl | rfl | rfl <;> first | rfl | (exfalso; omega)
end Go.Proofs.YteibbnmlmbhkpaaDoor
