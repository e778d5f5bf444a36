/- NfaExamples: the closed run,with what is known put in. -/
import Derived.Test.YtbfnjdhafgnlnaaDoorAMC
import Derived.Test.YtbfnjdhafgnlnaaDoorAX0
import Derived.Test.YtbfnjdhafgnlnaaDoorAbsFast
namespace Go.Abs.NfaD
open Go Go.Abs
set_option linter.unusedSimpArgs false
set_option linter.unusedVariables false
set_option maxRecDepth 100000
def KX (m1 m2 m3 : Aut) : Known := [(25,[secA.av,word false (List.replicate 64 0)],.tup [.bool false,.int .i64 0]),(7,[],.bool true),(26,[(xKa 0 64 512).av],.int .i64 0),(17,[(xKa 0 64 512).av],.tup [m1.av,.int .i64 0]),(19,[(xKa 0 64 512).av,zeroA.av],.tup [m2.av,.int .i64 0]),(19,[zeroA.av,(xKa 0 64 512).av],.tup [m3.av,.int .i64 0]),(19,[(xKa 1 1 510).av,secA.av],.tup [zeroA.av,.int .i64 4])] ++ xZO
theorem yAr (a1 a2 a3 b1 b2 b3 c1 c2 c3 : Bool) : xO6 xAV (KX (xTK 0 0 a1 a2 a3) (U.uniA (xKa 0 64 512) zeroA b1 b2 b3) (U.uniA zeroA (xKa 0 64 512) c1 c2 c3)) 900 4 [] (.bool true) = true := by kernel_rfl
theorem law4 (avs : List AV) (h : xRG [] avs) : (lim xAV).pcall 4 avs = some (.bool true) := by
  cases avs with
  | cons a l => simp [xRG] at h
  | nil =>
    obtain ⟨a1,a2,a3,h1⟩ := xVh (v := 0) (s := 64) (k := 512) (by decide) (by decide) (by decide) (by decide) (by decide)
    obtain ⟨⟨b1,b2,b3,h2⟩,⟨c1,c2,c3,h3⟩,h4⟩ := xTL
    refine xCA (T := KX _ _ _) (n := 900) ?_ (yAr a1 a2 a3 b1 b2 b3 c1 c2 c3)
    exact xBF (xBF (xBF (xBF (xBF (xBF (xBF yAv h4) h3) h2) h1) xTM) xVj) xXq
end Go.Abs.NfaD
