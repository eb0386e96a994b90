/- The law of bursts: its walk. -/
import Derived.Test.YtpjpmgpehpigaaaCrcLaws
set_option linter.unusedVariables false
namespace Go.Proofs.Ytpjpmgpehpigaaa
open Go.RowKit
/-- Four bytes are changed, one by one. -/
def burst (x : List UInt8) (k : Nat) (by_ : Nat) : Nat → List UInt8
  | 0 => x
  | i + 1 => (burst x k by_ i).set (k + i) ((burst x k by_ i).getD (k + i) 0 ^^^ UInt8.ofNat (by_ / 256 ^ i))
theorem burst_len (x : List UInt8) (k by_ i : Nat) : (burst x k by_ i).length = x.length := by
  induction i with
  | zero => rfl
  | succ i ih => simp [burst, ih]
theorem burst_val (l : List UInt8) (i b j : Nat) (hb : b < 4294967296) : bits .xor .u8 (bt l i) ((b : Int) / 2 ^ (8 * j) % 256) = ((l.getD i 0 ^^^ UInt8.ofNat (b / 256 ^ j)).toNat : Int) := by
  have e : ((b : Int) / 2 ^ (8 * j) % 256) = ((b / 256 ^ j % 256 : Nat) : Int) := by
    rw [show (256 : Nat) ^ j = 2 ^ (8 * j) from by rw [Nat.pow_mul]]
    rw [Int.natCast_emod, Int.natCast_ediv, Int.natCast_pow]; rfl
  have hx := (l.getD i 0).toNat_lt
  unfold bt
  rw [e, u8_xor_nat _ _ (by omega) (by omega), UInt8.toNat_xor]
  simp
def BurstRel (w : World) (x : List UInt8) (xv : Value) (g cap k by_ : Nat) (i : Value) (wr : World) : Prop :=
  ∃ j : Nat, j ≤ 4 ∧ i = .int .i64 j ∧ Own8 wr w.heap.size 5 (.slice (some ⟨g, 0, none⟩) x.length cap) (burst x k by_ j) ∧ Rd wr xv x ∧ Below w.heap.size w wr
def BurstPure : Prop := ∀ (x : List UInt8) (k by_ : Nat), x.length ≤ 1000 → k + 4 ≤ x.length → 0 < by_ → by_ < 4294967296 → moreN 0 x ≠ moreN 0 (burst x k by_ 4)
set_option maxHeartbeats 800000 in
set_option maxRecDepth 100000 in
theorem crcBurst_c (HP : BurstPure) (w : World) (v : Value) (l : List UInt8) (h : Rd w v l) (at_ : Int) (ha : -9223372036854775808 ≤ at_ ∧ at_ ≤ 9223372036854775807) (by_ : Nat) (hb : by_ < 4294967296) :
    Calls Try.prog 5 #[v, .int .i64 at_, .int .u32 by_] w (Ok w) := by
  go_enter Try.func5, Try.ntmps5
  go_wp2_with fail
  refine (few9_c _ l _ h).mono ?_
  rintro e w1 ⟨v1, rfl, ho1, hb1⟩
  have hX := ho1.rd
  have hlx : (l.take 1000).length ≤ 1000 := by simp; omega
  generalize hx : l.take 1000 = x at ho1 hX hlx
  have HX := Go.Lib.hid hx
  clear hx
  by_cases hbig : 4 ≤ x.length ∧ 0 < by_
  · obtain ⟨hbig, hby⟩ := hbig
    have hne : ((by_ : Int) == 0) = false := by rw [beq_eq_false_iff_ne]; omega
    have h1 := Int.tmod_lt_of_pos at_ (show (0:Int) < (x.length : Int) - 3 by omega)
    have h2 := Int.lt_tmod_of_pos at_ (show (0:Int) < (x.length : Int) - 3 by omega)
    have h3 : 0 ≤ (at_.tmod ((x.length : Int) - 3) + (x.length : Int) - 3) % ((x.length : Int) - 3) := Int.emod_nonneg _ (by omega)
    have h4 : (at_.tmod ((x.length : Int) - 3) + (x.length : Int) - 3) % ((x.length : Int) - 3) < (x.length : Int) - 3 := Int.emod_lt_of_pos _ (by omega)
    have hd4 : decide ((x.length : Int) < 4) = false := by simp; omega
    go_wp2_with (first | (with_reducible refine G_len ?_; refine L8_len Try.underlying23 (by with_unfolding_all (conv => lhs; whnf)) (by assumption) ?_))
    refine (few9_c _ l _ (h.below hb1)).mono ?_
    rintro e w2 ⟨v2, rfl, ho2, hb2⟩
    go_wp2
    generalize (at_.tmod ((x.length : Int) - 3) + (x.length : Int) - 3) % ((x.length : Int) - 3) = kk at h3 h4
    obtain ⟨k, rfl⟩ := Int.eq_ofNat_of_zero_le h3
    have hk4 : k + 4 ≤ x.length := by omega
    clear h1 h2 h3 h4 hd4 hne
    rw [HX.out] at ho2
    obtain ⟨g, cap, rfl, hg1, hg2⟩ := ho2.open (by omega)
    have hll := hX.len_le
    go_loopw [10] (fun i wr => BurstRel w x v1 g cap k by_ i wr) (fun i _ => 4 - (intOf i).toNat)
    case atStart => exact ⟨0, by omega, rfl, ho2.mono hb1.size, hX.below hb2, below_below hb1 hb2⟩
    case round =>
      obtain ⟨j, hj, rfl, hO, hXr, hbr⟩ := hrel
      by_cases hlt : j < 4
      · have hlen := burst_len x k by_ j
        have hcell := hO.cell (k + j) (by omega)
        have hfro := hO.frozen (k + j) (by omega)
        have hbt := bt_lo (burst x k by_ j) (k + j)
        have hbt2 := bt_hi (burst x k by_ j) (k + j)
        go_wp2
        have i0 : (0 : Int) ≤ (k : Int) + (j : Int) := by omega
        have i1 : (k : Int) + (j : Int) < (x.length : Int) := by omega
        have i2 : ((k : Int) + (j : Int)).toNat = k + j := by omega
        (refine region_tail 17 (by kernel_rfl) (by kernel_rfl) ?_; simp only [List.take_succ_cons, List.take_zero, List.drop_succ_cons, List.drop_zero]; repeat (refine wpStill_step (fun K hK => ?_); go_simp; (try go_bits); refine hK _ ?_; clear hK K); try refine wpStill_nil ?_)
        go_wp2
        refine ⟨⟨j + 1, by omega, by go_num, ?_, ?_, ?_⟩, by simp [intOf]; omega⟩
        · have := hO.stored (k + j) (by omega) ((burst x k by_ j).getD (k + j) 0 ^^^ UInt8.ofNat (by_ / 256 ^ j))
          rw [burst_val _ _ _ _ hb]
          exact this.drew
        · refine Rd.drew (hXr.grown (grown_setCell _ _ _) fun hn e => ?_)
          have := hX.lt g e hn
          omega
        · exact (hbr.setCell (by have := hb1.size; show w.heap.size ≤ g; omega) _).drew
      · obtain rfl : j = 4 := by omega
        have hne2 := Go.Lib.hid (HP x k by_ hlx hk4 hby hb)
        go_wp2_with fail
        refine (sum_c _ _ _ hXr).mono ?_
        rintro e w' ⟨rfl, rfl⟩
        go_wp2_with fail
        refine (sum_c _ _ _ hO.rd).mono ?_
        rintro e w' ⟨rfl, rfl⟩
        have hne4 : ¬ (((moreN 0 x : Nat) : Int) = ((moreN 0 (burst x k by_ 4) : Nat) : Int)) := fun h => hne2.out (by omega)
        have hne5 : (((moreN 0 x : Nat) : Int) != ((moreN 0 (burst x k by_ 4) : Nat) : Int)) = true := bne_iff_ne.2 hne4
        go_wp2_with fail
        refine (wakes9_c _).mono ?_
        rintro e w5 ⟨rfl, hb5⟩
        go_wp2
        go_ret
        exact ⟨rfl, below_below hbr hb5⟩
  · by_cases h4 : x.length < 4
    · go_wp2_with (first | (with_reducible refine G_len ?_; refine L8_len Try.underlying23 (by with_unfolding_all (conv => lhs; whnf)) (by assumption) ?_))
      refine (wakes9_c _).mono ?_
      rintro e w5 ⟨rfl, hb5⟩
      go_wp2
      go_ret
      exact ⟨rfl, below_below hb1 hb5⟩
    · obtain rfl : by_ = 0 := by omega
      go_wp2_with (first | (with_reducible refine G_len ?_; refine L8_len Try.underlying23 (by with_unfolding_all (conv => lhs; whnf)) (by assumption) ?_))
      refine (wakes9_c _).mono ?_
      rintro e w5 ⟨rfl, hb5⟩
      go_wp2
      go_ret
      exact ⟨rfl, below_below hb1 hb5⟩
end Go.Proofs.Ytpjpmgpehpigaaa
