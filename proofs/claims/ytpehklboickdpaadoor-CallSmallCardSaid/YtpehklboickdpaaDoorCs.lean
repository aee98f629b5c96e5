/- Chapter 8: the law CallSmall: what it calls. -/
import Derived.Test.YtpehklboickdpaaDoorLTells
import Derived.Test.YtpehklboickdpaaDoorQS2
namespace Go.Proofs.YtpehklboickdpaaDoor
open Go Go.Eng
end Go.Proofs.YtpehklboickdpaaDoor
