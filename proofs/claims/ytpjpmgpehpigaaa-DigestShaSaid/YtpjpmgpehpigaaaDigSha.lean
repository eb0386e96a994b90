/- DigestSha. -/
import Derived.Test.YtpjpmgpehpigaaaRefSha
import Derived.Test.YtpjpmgpehpigaaaDigWakes
import Derived.Test.YtpjpmgpehpigaaaArrEq
set_option linter.unusedVariables false
set_option linter.unusedSimpArgs false
namespace Go.Proofs.Ytpjpmgpehpigaaa
open Go.RowKit
set_option maxRecDepth 100000 in
set_option maxHeartbeats 800000 in
theorem digestSha_w (w : World) (v : Value) (l : List UInt8) (h : Rd w v l) :
    Calls Try.prog 7 #[v] w (Ok w) := by
  have H := fun v' w' (h' : Rd w' v' (l.take 1000)) => sha_c v' _ w' h' (by simp; omega)
  have HR := fun v' w' (h' : Rd w' v' (l.take 1000)) => refsha_c v' _ w' h' (by simp; omega)
  unfold GivesB at H HR
  have nS : (bvs (shaI (l.take 1000))).length = 32 := by rw [bvs_length, shaI_len]
  have oS := bvs_one (shaI (l.take 1000))
  have hls := shaI_len (l.take 1000)
  go_enter Try.func7, Try.ntmps7
  generalize shaI (l.take 1000) = s at *
  have hE : ∀ w', (Op.equalIn 10000 33 (.agg (bvs s).toArray) (.agg (bvs s).toArray)).run Try.prog w' = .ok true w' := fun w' => by rw [eq32_run w' s s hls hls]; simp
  go_wp2_with fail
  refine (few5_c _ l _ h).mono ?_
  rintro e w1 ⟨v1, rfl, ho1, hb1⟩
  go_wp2_with fail
  refine (H _ _ ho1.rd).mono ?_
  rintro e w2 ⟨rfl, hb2⟩
  have hb12 := below_below hb1 hb2
  go_wp2_with fail
  refine (few5_c _ l _ (h.below hb12)).mono ?_
  rintro e w3 ⟨v3, rfl, ho3, hb3⟩
  have hb13 := below_below hb12 hb3
  go_wp2_with fail
  refine (HR _ _ ho3.rd).mono ?_
  rintro e w4 ⟨rfl, hb4⟩
  have hb14 := below_below hb13 hb4
  go_wp2_with fail
  refine (wakes5_c _).mono ?_
  rintro e w5 ⟨rfl, hb5⟩
  go_wp2
  go_ret
  exact ⟨rfl, below_below hb14 hb5⟩
end Go.Proofs.Ytpjpmgpehpigaaa
