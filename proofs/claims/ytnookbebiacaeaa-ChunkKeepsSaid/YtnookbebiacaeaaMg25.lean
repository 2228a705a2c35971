/-
  Several texts in one: Jf.
-/
import Derived.Test.YtnookbebiacaeaaChecked
import Derived.JoinedOf
import Derived.KernelRfl
import Derived.Test.YtnookbebiacaeaaMg24

section
namespace Go.Proofs.Ytnookbebiacaeaa
open Go
theorem jf1 : laidOutB Try.checked.prog = true := by kernel_rfl
theorem jf2 : mapsRowed Try.checked.prog = true := by kernel_rfl
theorem jf3 : (Try.checked.prog.stops == []) = true := by kernel_rfl
theorem jf4 : (Try.checked.prog.stopKnobs == []) = true := by kernel_rfl
theorem jf5 : Try.checked.prog.stopsHeard = true := by kernel_rfl
theorem jf6 : Try.checked.prog.mayEnter = true := by kernel_rfl
theorem joined_of {P : Program} {f : FuncId} {fn : Func} {s : ChangeSpec} {c : OpenClaim}
  (h1 : laidOutB P = true) (h2 : mapsRowed P = true) (h3 : (P.stops == []) = true) (h4 : (P.stopKnobs == []) = true) (h5 : P.stopsHeard = true) (h6 : P.mayEnter = true)
  (a1 : (c.wf (OpenSpec.ofChange s) && fn.params.all (P.readableRec ·) && namedTie P c.named s.vars && (c.stops == []) && (c.knobs == []) && s.vars.all (P.varReadable ·) && fn.resultTypes.all (fun t => P.readableRec t && decide (t < P.types.size)) && c.shortTexts.isNone && (c.kinds == (if c.domain.isEmpty then [] else fn.params.toList.map fun t => match P.underlying t with | some (.int k) => some k | _ => none)) && (c.pinned == c.pinnedBy)) = true)
  (a2 : (c.inPlace == P.inPlace f) = true) (a3 : (c.unfollowed == P.unfollowed f) = true) (a4 : (c.recurses == P.recurses f) = true) (a5 : (c.named == P.varsNamed f) = true)
  (a6 : ((c.maps == (fn.params.toList ++ s.plain.varTypes P).any (P.mapsRec ·)) && (c.ifaces == (fn.params.toList ++ s.plain.varTypes P).any (P.ifacesRec ·)) && (c.mapsOut == P.mapsAmong fn.resultTypes.toList) &&
   (c.loops == (fn.params.toList ++ s.plain.varTypes P).any (P.loopsFrom ·)) && (c.wideKeys == (fn.params.toList ++ s.plain.varTypes P ++ fn.resultTypes.toList).any (P.wideKeysFrom ·)) && (c.ifacesOut == fn.resultTypes.toList.any (P.ifacesRec ·)) && (c.loopsOut == fn.resultTypes.toList.any (P.loopsFrom ·))) = true)
  (a7 : (c.plainKeys == P.plainKeys) = true) (a8 : (c.lifted == P.liftsFinal) = true) (a9 : (P.make == some c.make) = true)
  (a10 : (c.veiled == (fn.params.toList ++ s.plain.varTypes P ++ fn.resultTypes.toList).any (P.veiledRec ·)) = true) (a11 : c.veiledFits P fn.params.toList (fn.params.toList ++ s.plain.varTypes P ++ fn.resultTypes.toList) = true) : joinedFacts P f fn s c = true := by
 simp only [Bool.and_eq_true] at a1 a6
 unfold joinedFacts
 simp only [Bool.and_eq_true]
 obtain ⟨⟨⟨⟨⟨⟨⟨⟨⟨b1, b2⟩, b3⟩, b4⟩, b5⟩, b6⟩, b7⟩, b8⟩, b9⟩, b10⟩ := a1
 obtain ⟨⟨⟨⟨⟨⟨d1, d2⟩, d3⟩, d4⟩, d5⟩, d6⟩, d7⟩ := a6
 exact ⟨⟨⟨⟨⟨⟨⟨⟨⟨⟨⟨⟨⟨⟨⟨⟨⟨⟨⟨⟨⟨⟨⟨⟨⟨⟨⟨⟨⟨⟨⟨b1, h1⟩, h2⟩, b2⟩, b3⟩, b4⟩, h3⟩, b5⟩, h4⟩, a2⟩, a3⟩, a4⟩, a5⟩, d1⟩, d2⟩, d3⟩, d4⟩, d5⟩, b6⟩, b7⟩, d6⟩, d7⟩, a7⟩, b8⟩, h5⟩, h6⟩, a8⟩, a9⟩, b9⟩, b10⟩, a10⟩, a11⟩
end Go.Proofs.Ytnookbebiacaeaa
end
