/- What Step rests on. No condition. -/
import Derived.Test.YtijjonafmmhhbaaGreatTWrite
import Derived.Test.YtijjonafmmhhbaaGreatTInts2
import Derived.Test.YtijjonafmmhhbaaGreatTBits
namespace Go.Proofs.YtijjonafmmhhbaaGreat.Ab
end Go.Proofs.YtijjonafmmhhbaaGreat.Ab
