/- Drawn memories: Write's arguments. No condition. -/
import Derived.Test.YtijjonafmmhhbaaGreatTMemD
namespace Go.Proofs.YtijjonafmmhhbaaGreat.Ab

def hDWrite : CH := fun args hl K => match args, hl with
  | [.imm _ _ 1 l], [] => ∃ bs, l = bs.map byteC ∧ BytesOk bs ∧ bs.length ≤ maxLen ∧ ∀ a s v : Int, I64 a → I64 v →
      K (.tup [.agg [.slc 0 0 (memX (bs.take 1000)).1.length false, .slc 1 0 (memX (bs.take 1000)).2.1.length false, .slc 2 0 (memX (bs.take 1000)).2.2.1.length false], .v (.int .i64 a), .v (.int .i64 s), .v (.int .i64 v)])
        [.lst 1 ((memX (bs.take 1000)).1.map byteC), .lst 1 ((memX (bs.take 1000)).2.1.map byteC), .lst 1 ((memX (bs.take 1000)).2.2.1.map byteC)]
  | _, _ => False
end Go.Proofs.YtijjonafmmhhbaaGreat.Ab
