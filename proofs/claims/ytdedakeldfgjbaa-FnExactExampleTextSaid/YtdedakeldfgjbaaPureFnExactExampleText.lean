/- For every integer, the program's ExampleText returns the same text as the reference's; no conditions. -/
import Derived.Test.YtdedakeldfgjbaaPFnExactExampleTextx1
namespace Go.Proofs.Ytdedakeldfgjbaa.Pure
open Go.RowKit Go.Proofs.Ytdedakeldfgjbaa.PFnExactExampleText Go.Proofs.YtdedakeldfgjbaaW.PrintWords Go.Proofs.YtdedakeldfgjbaaW.PrintLast

/-- YOURS: ∀ (a0 : Int), (Lit.int .i64 a0).wf = true → laws_FnExactExampleText.f a0 = some true
What it reaches (each with k first where it has rounds; `.mono`: more rounds tell the same; `.l0`, ..: its loops, with `.mono_l`): spec_ExampleText.f, impl_ExampleText.f, laws_FnExactExampleText.f -/
theorem FnExactExampleText : laws_FnExactExampleText.Pure := by
  intro a0 _
  have e : impl_ExampleText.f = spec_ExampleText.f := by funext a; unfold impl_ExampleText.f spec_ExampleText.f; rfl
  have hs : ∃ r, spec_ExampleText.f a0 = some r := by
    unfold spec_ExampleText.f
    repeat' (first | exact ⟨_, rfl⟩ | split)
  obtain ⟨r, hr⟩ := hs
  unfold laws_FnExactExampleText.f
  rw [e, hr, Option.bind_some]
  rw [Option.bind_some]
  rw [if_pos rfl]

end Go.Proofs.Ytdedakeldfgjbaa.Pure
