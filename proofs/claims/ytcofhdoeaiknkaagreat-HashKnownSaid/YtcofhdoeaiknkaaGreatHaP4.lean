/-
  A run in pieces.
-/
import Derived.Test.YtcofhdoeaiknkaaGreatHaS0
namespace Go.Proofs.YtcofhdoeaiknkaaGreat.Ha
open Go.AX
noncomputable section

set_option maxRecDepth 1000000 in
theorem piece9 : txtK P hk 2 [11536,0] [0,1,68,122,123,124,133,138,139,1159,1164,1169,1672,1674,1787,1887,1920,1921,1931,1935,1936,1937,1994,1995,1996,1997,1998,1999,2000,2005,2006,2007,2008,2009,2010,2011,2043,2045,2095,2096,2097] [1787] st8 = some st9 := by kernel_rfl

set_option maxRecDepth 1000000 in
theorem piece10 : txtK P hk 2 [12314,0] [0,1,68,122,123,124,133,138,139,1159,1164,1169,1672,1674,1787,1887,1920,1921,2191,2192,2193,2194,2195,2196,2197,2198,2199,2206,2207,2208,2209,2210,2211,2212,2213,2214,2215,2216,2240,2242,2268,2269,2270,2273,2276,2277,2278,2279,2297,2298] [] st9 = some st10 := by kernel_rfl

end
end Go.Proofs.YtcofhdoeaiknkaaGreat.Ha
