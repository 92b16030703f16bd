/- The contract of sha.Of. -/
import Derived.Test.YtafjnlikmjahfaaDoorHashC
namespace Go.Proofs.YtafjnlikmjahfaaDoor
open Go.RowKit

end Go.Proofs.YtafjnlikmjahfaaDoor
