/- Layer 9: what is shut: runs of hidden words (plain). Layer 9: how many words are shut; ranges within others (the statements' own functions). -/
import Derived.Test.YtpcpjmplgladmaaMK
set_option linter.unusedSimpArgs false
set_option linter.unusedVariables false
/- Layer 9: the law VeilLooks. -/
 namespace Go.Proofs.Ytpcpjmplgladmaa
open Go.Pal Go.RowKit
set_option maxRecDepth 100000
def tabLw : Tab Try.prog := Tab.cons 13 _ few13 body13 (Tab.cons 14 _ wakes14 body14 (Tab.cons 16 _ report16 body16 (Tab.cons 17 _ reader17 body17 (Tab.cons 18 _ faultL18 body18 (Tab.cons 28 _ look28 body28 (Tab.cons 30 _ check30 body30 (Tab.cons 31 _ find31 body31 (Tab.cons 32 _ fault32 body32 (Tab.cons 33 _ shown33 body33 (Tab.cons 34 _ look34 body34 (Tab.cons 29 _ pieces29 body29 (Tab.cons 15 _ index15 body15 (Tab.cons 21 _ closed21 body21 (Tab.cons 23 _ ready23 body23 (Tab.cons 35 _ hidden35 body35 (Tab.cons 24 _ has24 body24 (Tab.cons 20 _ entries20 body20 (Tab.cons 37 _ fewest37 body37 (Tab.cons 38 _ ints38 body38 (Tab.cons 27 _ list27 body27 (Tab.cons 41 _ holds41 body41 (Tab.nil _))))))))))))))))))))))
end Go.Proofs.Ytpcpjmplgladmaa

/- Layer 9: the law VeilShuts. -/
  namespace Go.Proofs.Ytpcpjmplgladmaa
open Go.Pal Go.RowKit
set_option maxRecDepth 100000
end Go.Proofs.Ytpcpjmplgladmaa

/- Layer 9: the law VeilIndexes. -/
  namespace Go.Proofs.Ytpcpjmplgladmaa
open Go.Pal Go.RowKit
set_option maxRecDepth 100000
end Go.Proofs.Ytpcpjmplgladmaa

namespace Go.Proofs.Ytpcpjmplgladmaa
open Go.Pal
set_option maxRecDepth 100000
end Go.Proofs.Ytpcpjmplgladmaa

namespace Go.Proofs.Ytpcpjmplgladmaa
open Go.Pal
set_option maxRecDepth 100000
end Go.Proofs.Ytpcpjmplgladmaa

/- Layer 9: the law VeilLater. -/
  namespace Go.Proofs.Ytpcpjmplgladmaa
open Go.Pal Go.RowKit
set_option maxRecDepth 100000
end Go.Proofs.Ytpcpjmplgladmaa

/- Layer 9: the law VeilOpens. -/
 namespace Go.Proofs.Ytpcpjmplgladmaa
open Go.Pal Go.RowKit
set_option maxRecDepth 100000
set_option maxHeartbeats 1000000
end Go.Proofs.Ytpcpjmplgladmaa
