/-
  The walk of the reference's Div.
-/
import Derived.Test.YtfhkpkebiinglaaRsm
import Derived.Test.YtfhkpkebiinglaaDvp
import Derived.Deep.RegionHeld3
import Derived.Deep.LoopGhost
import Derived.Deep.CutRange
namespace Go.Proofs.Ytfhkpkebiinglaa
open Go.RowKit

theorem bytesR_pre (a : ByteArray) (k : Nat) : bytesR (a.extract 0 k) = (bytesR a).drop (a.size - k) := by
  have hl : a.data.toList.length = a.size := by rw [Array.length_toList]; rfl
  unfold bytesR
  rw [ByteArray.data_extract, Array.toList_extract, List.extract_eq_take_drop, List.drop_zero, Nat.sub_zero, List.reverse_take, List.map_drop, hl]
theorem pre_ok {a : ByteArray} (ha : Ok a) (k : Nat) (hk : k ≤ a.size) : Ok (a.extract 0 k) := by
  have hs : (a.extract 0 k).size = k := by rw [ByteArray.size_extract]; omega
  refine ⟨by rw [hs]; have := ha.1; omega, fun h => ?_⟩
  rw [hs] at h
  have := ha.2 (by omega)
  have e : (a.extract 0 k)[0]'(by rw [hs]; exact h) = a[0]'(by omega) := by simp [ByteArray.getElem_extract]
  rw [e]; exact this
/-- The beginning of a number that is shorter than b. -/
theorem pre_enc {a b : ByteArray} (ha : Ok a) (hb : Ok b) (k : Nat) (hk : k ≤ a.size) (hkb : k ≤ b.size - 1) (hb0 : b.size ≠ 0) :
    a.extract 0 k = enc (dval 256 ((bytesR a).drop (a.size - k))) ∧ dval 256 ((bytesR a).drop (a.size - k)) < bval b := by
  have h1 := bytesR_pre a k
  constructor
  · have := enc_bval (a.extract 0 k) (pre_ok ha k hk)
    unfold bval at this
    rw [h1] at this
    exact this.symm
  · have h2 := dval_lt 256 ((bytesR a).drop (a.size - k)) fun d hd => bytesR_lt a d (List.mem_of_mem_drop hd)
    rw [List.length_drop, bytesR_len] at h2
    refine Nat.lt_of_lt_of_le h2 ?_
    have h3 : 256 ^ (a.size - (a.size - k)) ≤ 256 ^ (b.size - 1) := Nat.pow_le_pow_right (by omega) (by omega)
    refine Nat.le_trans h3 ?_
    have h4 := ok_len b hb
    have h5 := (digs_len (B := 256) (by omega) (bval b) (b.size - 1))
    exact Nat.le_of_not_lt fun h => by have := h5.2 h; omega
theorem _root_.Go.RowKit.Below.alloced {a w : World} (h : Below a.heap.size a w) {o : Obj} : Below a.heap.size a (w.alloc o) := h.alloc h.size o
theorem lone_row (x : Nat) (y : Int) (hy : y = (x : Int)) (w : World) : RowAt (w.alloc (.cells #[.int .i64 y] 3)) .i64 (some ⟨w.heap.size, 0, none⟩) 1 [x] := by
  subst hy
  refine ⟨Nat.le_refl _, by unfold maxLen; omega, (fun h => by cases h), fun i hi => ⟨w.heap.size, rfl, by simp, ?_⟩⟩
  rw [World.cell?_alloc_at _ _ _ _ rfl]
  match i, hi with
  | 0, _ => rfl
/-- One digit made. -/
theorem lone_made (x : Nat) (hx : x < 256) (y : Int) (hy : y = (x : Int)) (w : World) :
    Calls Try.prog 67 #[.slice (some ⟨w.heap.size, 0, none⟩) 1 1] (w.alloc (.cells #[.int .i64 y] 3)) fun e w' => e = .returned (.string (enc x)) ∧ Below w.heap.size w w' ∧ Below (w.alloc (.cells #[.int .i64 y] 3)).heap.size (w.alloc (.cells #[.int .i64 y] 3)) w' := by
  refine (made_any (some ⟨w.heap.size, 0, none⟩) 1 1 [x] rfl (by intro d hd; rw [List.mem_singleton.1 hd]; exact hx) (by omega) _ (lone_row x y hy w)).mono ?_
  rintro e w' ⟨rfl, B⟩
  exact ⟨by simp [dval], ((Below.refl _ _).alloc (Nat.le_refl _) _).trans (B.mono (by simp)), B⟩
theorem lone_made_g (x : Nat) (hx : x < 256) (y : Int) (hy : y = (x : Int)) (w : World) (g : Nat) (hg : g = w.heap.size) :
    Calls Try.prog 67 #[.slice (some ⟨g, 0, none⟩) 1 1] (w.alloc (.cells #[.int .i64 y] 3)) fun e w' => e = .returned (.string (enc x)) ∧ Below w.heap.size w w' ∧ Below (w.alloc (.cells #[.int .i64 y] 3)).heap.size (w.alloc (.cells #[.int .i64 y] 3)) w' := by
  subst hg; exact lone_made x hx y hy w
theorem lone_made_on (x : Nat) (hx : x < 256) {y : Int} (hy : y = (x : Int)) {w W : World} (B : Below (w.alloc (.cells #[.int .i64 y] 3)).drew.heap.size (w.alloc (.cells #[.int .i64 y] 3)).drew W) :
    Calls Try.prog 67 #[.slice (some ⟨w.heap.size, 0, none⟩) 1 1] W fun e w' => e = .returned (.string (enc x)) ∧ Below W.heap.size W w' := by
  refine (made_any (some ⟨w.heap.size, 0, none⟩) 1 1 [x] rfl (by intro d hd; rw [List.mem_singleton.1 hd]; exact hx) (by omega) _ ((lone_row x y hy w).drew.below B (Nat.le_refl _))).mono ?_
  rintro e w' ⟨rfl, B⟩
  exact ⟨by simp [dval], B⟩
theorem enc_times (x y : Nat) (hx : (enc x).size ≤ 200000) (hy : (enc y).size ≤ 200000) (w : World) :
    Calls Try.prog 64 #[.string (enc x), .string (enc y)] w fun e w' => e = .returned (.string (enc (x * y))) ∧ Below w.heap.size w w' := by
  have := times_any (enc x) (enc y) hx hy w
  rwa [bval_enc, bval_enc] at this
theorem enc_plus (x y : Nat) (hx : (enc x).size ≤ 200000) (hy : (enc y).size ≤ 200000) (w : World) :
    Calls Try.prog 66 #[.string (enc x), .string (enc y)] w fun e w' => e = .returned (.string (enc (x + y))) ∧ Below w.heap.size w w' := by
  have := plus_any (enc x) (enc y) hx hy w
  rwa [bval_enc, bval_enc] at this
theorem enc_len {x k : Nat} (h : x < 256 ^ k) : (enc x).size ≤ k := by
  rw [enc_size]; exact (digs_len (by omega) _ _).2 h
theorem enc_ok {x k : Nat} (h : x < 256 ^ k) (hk : k ≤ 16384) : Ok (enc x) := ok_enc x (Nat.le_trans ((digs_len (by omega) _ _).2 h) hk)
theorem enc_256 : (⟨#[1, 0]⟩ : ByteArray) = enc 256 := by
  refine (enc_lit (n := 256) [0, 1] ?_ ?_ ?_ ?_).symm
  · intro d hd; simp at hd; omega
  · simp
  · rfl
  · rfl
theorem cmp_le0 {a b : Nat} (h : a ≤ b) : cmpN a b ≤ 0 := by unfold cmpN; split; omega; rw [if_neg (by omega)]; omega
theorem cmp_gt0 {a b : Nat} (h : ¬ a ≤ b) : ¬ cmpN a b ≤ 0 := by unfold cmpN; rw [if_neg (by omega), if_pos (by omega)]; omega
theorem sub_small {x z k : Nat} (hx : Ok (enc x)) (hz : Ok (enc z)) (hle : z ≤ x) (hs : x - z < 256 ^ k) (hk : k ≤ 16384) (w : World) :
    Calls Try.prog 36 #[.string (enc x), .string (enc z)] w fun e w' => e = .returned (.tuple #[.string (enc (x - z)), .int .i64 0]) ∧ Below w.heap.size w w' := by
  have h := rSub_any (enc x) (enc z) hx hz w
  rw [bval_enc, bval_enc] at h
  have e : subN x z = .tuple #[.string (enc (x - z)), .int .i64 0] := by
    have h1 : (digs 256 (x - z)).length ≤ k := (digs_len (by omega) _ _).2 hs
    unfold subN endN endS endE
    rw [if_neg (by omega), if_neg (by omega), if_neg (by omega)]
  rwa [e] at h
theorem enc256_le : (enc 256).size ≤ 200000 := by rw [← enc_256]; decide

set_option maxRecDepth 100000 in
set_option maxHeartbeats 8000000 in
theorem rDiv_big (a b : ByteArray) (ha : Ok a) (hb : Ok b) (hb0 : b.size ≠ 0) (has : a.size ≤ 1200) (hbs : b.size ≤ 1200) (w : World) :
    Calls Try.prog 25 #[.string a, .string b] w fun e w' => e = .returned (.tuple #[.string (enc (bval a / bval b)), .string (enc (bval a % bval b)), .int .i64 0]) ∧ Below w.heap.size w w' := by
  have hz : b.toList.isEmpty = decide (b.size = 0) := isEmpty_size b
  have hz2 : b.toList.isEmpty = false := by rw [hz]; simp [hb0]
  have hz3 : ¬ b.toList = [] := fun h => hb0 ((toList_nil b).1 h)
  have hy0 : 0 < bval b := Nat.pos_of_ne_zero fun e => hb0 ((ok_zero b hb).1 e)
  have hyl := bval_lt b
  have HP := Lib.hid fun k hk hkb => pre_enc ha hb k hk hkb hb0
  have HA := Lib.hid (bytesR_lt a)
  have HG := Lib.hid fun i m (h1 : i < (bytesR a).length) hm hms => bytesR_get a i h1 m hm hms
  have hAl := bytesR_len a
  have HEB := Lib.hid (enc_bval b hb)
  have HBV : Hid (bval a = dval 256 (bytesR a)) := rfl
  have hpow : ∀ z, z < bval b * 256 → z < 256 ^ (b.size + 1) := fun z h => by
    rw [Nat.pow_succ]; exact Nat.lt_of_lt_of_le h (Nat.mul_le_mul_right _ (Nat.le_of_lt hyl))
  have HPW := Lib.hid hpow
  rw [HBV.out]
  generalize hy : bval b = y at *
  have HYB : Hid (b = enc y) := HEB.out.symm
  generalize bytesR a = L at *
  obtain ⟨k0, hk0⟩ : ∃ k0, k0 = min (b.size - 1) a.size := ⟨_, rfl⟩
  obtain ⟨hp1, hp2⟩ := HP.out k0 (by omega) (by omega)
  have HST := Lib.hid (QuoAt.start (A := L) (y := y) (k := a.size - k0) (by omega) hp2)
  have HP1 := Lib.hid hp1
  have hcase : ((b.size : Int) - 1 > a.size ∧ k0 = a.size) ∨ (¬ (b.size : Int) - 1 > a.size ∧ (b.size : Int) - 1 = k0) := by omega
  have hka : k0 ≤ a.size := by omega
  clear hz hb0 hp1 hp2 HP hk0 hpow ha hb HEB
  have hsz : ∀ z, z < y * 256 → (enc z).size ≤ 200000 := fun z h => Nat.le_trans (enc_len (HPW.out z h)) (by omega)
  have HSZ := Lib.hid hsz
  clear hsz
  have HTM := Lib.hid fun m (hm : (enc m).size ≤ 200000) W => by have h := times_any b (enc m) (by omega) hm W; rw [bval_enc, hy] at h; exact h
  go_enter Try.func25, Try.ntmps25
  go_upto_if 25 with (first | (at_make; refine wpList_make_ap rfl _ _ 84 rfl Try.underlying84 info3 (by omega) w (Below.refl _ _) a.size a.size _ _ .i64 .i64 rfl rfl rfl rfl (by omega) (by omega) ?_; intro w1 hap1 hs1 hs2; have HAP := Lib.hid hap1; clear hap1 hs1 hs2))
  go_cut [8] from 22 (fun v wx => v = .int .i64 (k0 : Int) ∧ w1 = wx)
  case first =>
    rcases hcase with ⟨hc, hke⟩ | ⟨hc, hke⟩
    · have HKE := Lib.hid hke
      clear hke
      go_wp2
      go_meet
      exact ⟨by rw [HKE.out], rfl⟩
    · have HKE := Lib.hid hke
      clear hke
      go_wp2
      go_meet
      exact ⟨by rw [HKE.out], rfl⟩
  case rest =>
    obtain ⟨rfl, rfl⟩ := hcut
    clear hcase
    have hkz : (k0 : Int) ≤ a.size := by omega
    go_wp2
    go_loopg [9, 10] (a.size - k0) (fun g vr vi wx => ∃ (i r : Nat) (Q : List Nat), g = a.size - i ∧ i ≤ a.size ∧ vi = .int .i64 (i : Int) ∧ vr = .string (enc r) ∧ Hid (QuoAt L y (a.size - i) r Q) ∧ Hid (Ap w 3 .i64 (.slice (some ⟨w.heap.size, 0, none⟩) a.size a.size) Q wx))
    case atStart =>
      exact ⟨k0, _, _, rfl, hka, rfl, congrArg Value.string HP1.out, HST, by rw [hAl]; exact HAP⟩
    case round =>
      obtain ⟨i, r, Q, rfl, hi, rfl, rfl, HQ, HW⟩ := hrel
      clear HAP HST HP1
      by_cases hlt : i < a.size
      · obtain ⟨k, hk⟩ : ∃ k, k = a.size - 1 - i := ⟨_, rfl⟩
        have hki : a.size - i = k + 1 := by omega
        rw [hki] at HQ
        have hx0 := HG.out k i (by omega) (by omega) hlt
        have hxl := UInt8.toNat_lt a[i]
        have HXD : Hid (L.getD k 0 = a[i].toNat) := by show _ = _; rw [getD_lt (by omega)]; exact hx0
        have hr := HQ.out.rest
        have HNX := Lib.hid (HQ.out.step HA.out)
        rw [HXD.out] at HNX
        have HT1 := Lib.hid fun W => enc_times r 256 (HSZ.out r (by omega)) enc256_le W
        rw [← enc_256] at HT1
        have hxw : IntKind.i64.wrap (a[i].toNat : Int) = ((a[i].toNat : Nat) : Int) := by rw [IntKind.wrap_i64]; omega
        have HM1 := Lib.hid fun W => lone_made a[i].toNat hxl _ rfl W
        have HP2 := Lib.hid fun W => enc_plus (r * 256) a[i].toNat (HSZ.out _ (by omega)) (HSZ.out _ (by omega)) W
        have hk2 : (a.size : Int) - 1 - i = k := by omega
        have hkn : k < a.size := by omega
        obtain ⟨R, hR⟩ : ∃ R, R = r * 256 + a[i].toNat := ⟨_, rfl⟩
        rw [← hR] at HP2
        rw [show 256 * r + a[i].toNat = R by omega] at HNX
        have hRy : R < y * 256 := by omega
        go_upto_region 11 with fail
        go_cut [9] from 32 to 83 (fun v wx => v = .string (enc R) ∧ Hid (Below wr.heap.size wr wx))
        case first =>
          go_region_held3 (fun W => Below wr.heap.size wr W) (first | assumption | exact Below.refl _ _ | exact (Below.refl _ _).drew | exact (Below.refl _ _).alloced.drew | exact Below.alloced (by assumption) | (refine Below.on ?_ B4; assumption) | (refine Below.on ?_ B3; assumption) | (refine Below.on ?_ B2; assumption)) (first | (go_at_call 64; refine (HT1.out _).mono ?_; rintro e w2 ⟨rfl, B2⟩) | (go_at_call 67; refine (HM1.out _).mono ?_; rintro e w3 ⟨rfl, B3a, B3⟩) | (go_at_call 67; refine (lone_made_on a[i].toNat hxl rfl B2).mono ?_; rintro e w3 ⟨rfl, B3⟩) | (go_at_call 66; refine (HP2.out _).mono ?_; rintro e w4 ⟨rfl, B4⟩))
          all_goals
            go_wp2_with fail
            go_meet
            exact ⟨by first | rfl | rw [hR], by assumption⟩
        case rest =>
          obtain ⟨rfl, HB⟩ := hcut
          have HS0 : Hid (SeekAt y R 0 255) := ⟨by omega, by rw [Nat.mul_comm]; exact hRy, by omega⟩
          have hW2 := HW.out.on HB.out
          have HW2 := Lib.hid hW2
          clear HT1 HM1 HP2 HW hW2 hx0 hxl hxw hR
          go_wp2
          obtain ⟨wo, hwo⟩ : ∃ wo : World, wo = wc := ⟨_, rfl⟩
          subst hwo
          have HB0 : Hid (Below wo.heap.size wo wo) := Below.refl _ _
          go_loopg [11, 12] 255 (fun g vl vh wx => ∃ (lo hi : Nat), g = hi - lo ∧ vl = .int .i64 (lo : Int) ∧ vh = .int .i64 (hi : Int) ∧ hi ≤ 255 ∧ Hid (SeekAt y R lo hi) ∧ Hid (Below wo.heap.size wo wx))
          case atStart => exact ⟨0, 255, rfl, rfl, rfl, by omega, HS0, HB0⟩
          case round =>
            obtain ⟨lo, hi2, rfl, rfl, rfl, hhi, HSK, HBW⟩ := hrel
            clear HS0 HB0
            have hle := HSK.out.le
            by_cases hlh : lo < hi2
            · obtain ⟨m, hm⟩ : ∃ m, m = (lo + hi2 + 1) / 2 := ⟨_, rfl⟩
              have hmz : ((lo : Int) + hi2 + 1) / 2 = (m : Int) := by omega
              have hlz : (lo : Int) < hi2 := by omega
              have hm1 : m ≤ hi2 := by omega
              have hm2 : lo < m := by omega
              have HM1 := Lib.hid fun W => lone_made m (by omega) _ rfl W
              have hmy : y * m < y * 256 := Nat.mul_lt_mul_of_pos_left (by omega) hy0
              have HTB := Lib.hid fun W => HTM.out m (Nat.le_trans (enc_len (k := 1) (by omega)) (by omega)) W
              have HCM := Lib.hid fun W => rCmp_any (enc (y * m)) (enc R) (enc_ok (HPW.out _ hmy) (by omega)) (enc_ok (HPW.out _ hRy) (by omega)) W
              rw [bval_enc, bval_enc] at HCM
              by_cases hcm : m * y ≤ R
              · have HS2 := Lib.hid (HSK.out.up m hm1 hcm)
                have hcc : cmpN (y * m) R ≤ 0 := cmp_le0 (by rw [Nat.mul_comm]; exact hcm)
                generalize cmpN (y * m) R = cc at *
                clear hm hcm hmy
                go_wp2_with (first | (go_at_call 67; refine (HM1.out _).mono ?_; rintro e w3 ⟨rfl, B3, _⟩) | (go_at_call 64; refine (HTB.out _).mono ?_; rintro e w4 ⟨rfl, B4⟩) | (go_at_call 31; refine (HCM.out _).mono ?_; rintro e w5 ⟨rfl, B5⟩))
                go_roundg (hi2 - m)
                case measure => omega
                case rel => exact ⟨m, hi2, rfl, rfl, rfl, hhi, HS2, ((HBW.out.on B3).on B4).on B5⟩
              · have HS2 := Lib.hid (HSK.out.down m hm2 hcm)
                have hcc : ¬ cmpN (y * m) R ≤ 0 := cmp_gt0 (by rw [Nat.mul_comm]; exact hcm)
                generalize cmpN (y * m) R = cc at *
                clear hm hcm hmy
                go_wp2_with (first | (go_at_call 67; refine (HM1.out _).mono ?_; rintro e w3 ⟨rfl, B3, _⟩) | (go_at_call 64; refine (HTB.out _).mono ?_; rintro e w4 ⟨rfl, B4⟩) | (go_at_call 31; refine (HCM.out _).mono ?_; rintro e w5 ⟨rfl, B5⟩))
                go_roundg (m - 1 - lo)
                case measure => omega
                case rel => exact ⟨lo, m - 1, rfl, rfl, by congr 1; omega, by omega, HS2, ((HBW.out.on B3).on B4).on B5⟩
            · have hee : hi2 = lo := by omega
              subst hee
              have hq := HSK.out.found hy0
              rw [hq] at HNX
              have hrem : R - y * hi2 = R % y := by have := Nat.div_add_mod R y; rw [hq] at this; omega
              have hyq : y * hi2 ≤ R := by have := HSK.out.low; rw [Nat.mul_comm] at this; exact this
              have hyq2 : y * hi2 < y * 256 := Nat.lt_of_le_of_lt hyq hRy
              have hyq3 : y * hi2 < y * 256 := hyq2
              have HM1 := Lib.hid fun W g hg => lone_made_g hi2 (by omega) _ rfl W g hg
              have HTB := Lib.hid fun W => HTM.out hi2 (Nat.le_trans (enc_len (k := 1) (by omega)) (by omega)) W
              have hRz := Nat.mod_lt R hy0
              have HSU := Lib.hid fun W => sub_small (enc_ok (HPW.out _ hRy) (by omega)) (enc_ok (HPW.out _ hyq3) (by omega)) hyq (show R - y * hi2 < 256 ^ (b.size + 1) by rw [hrem]; exact HPW.out _ (by omega)) (by omega) W
              rw [hrem] at HSU
              have HW3 := HW2.out.on HBW.out
              have hk3 : a.size - 1 - i = k := by omega
              have hcell := HW3.cell k (by rw [HQ.out.len, hAl]; exact hkn)
              have hfz := HW3.frozen (by rw [HQ.out.len, hAl]) k
              have hst := HW3.store (by rw [HQ.out.len, hAl]) k hi2
              generalize Q[k]'(by rw [HQ.out.len, hAl]; exact hkn) = o at hcell
              rw [show (⟨w.heap.size, k, none⟩ : Addr) = ⟨w.heap.size, a.size - 1 - i, none⟩ by rw [hk3]] at hcell hfz hst
              have HSTO := Lib.hid hst
              have HK3 := Lib.hid hk3
              have hgs := (HW3.own.lt w.heap.size rfl).2
              clear HSK hq hrem hyq hyq2 hyq3 hRz HW3 hst hk3
              go_wp2_with (first | (go_at_call 67; refine (HM1.out _ _ (by simp)).mono ?_; rintro e w3 ⟨rfl, B3, _⟩) | (go_at_call 64; refine (HTB.out _).mono ?_; rintro e w4 ⟨rfl, B4⟩) | (go_at_call 36; refine (HSU.out _).mono ?_; rintro e w5 ⟨rfl, B5⟩))
              go_roundg (a.size - (i + 1))
              case measure => omega
              case rel => exact ⟨i + 1, R % y, _, rfl, hlt, by rw [Int.natCast_add]; rfl, rfl, by rw [show a.size - (i + 1) = k by have := HK3.out; omega]; exact HNX, (((HSTO.out.on B3).on B4).on B5)⟩
      · have hie : i = a.size := by omega
        subst hie
        rw [Nat.sub_self] at HQ
        obtain ⟨e1, e2⟩ := HQ.out.stop
        have hrow := (own_row (by have := HW.out.own; rw [HQ.out.len, hAl] at this; exact this)).2
        have HMD := Lib.hid (made_any _ a.size a.size Q (by rw [HQ.out.len, hAl]) HQ.out.lt (by omega) _ hrow)
        rw [e1] at HMD
        rw [e2]
        clear hrow e1 HQ
        go_wp2_with (first | (go_at_call 67; refine HMD.out.mono ?_; rintro e w5 ⟨rfl, B5⟩))
        go_ret3
        exact ⟨rfl, HW.out.below.on B5⟩
end Go.Proofs.Ytfhkpkebiinglaa
