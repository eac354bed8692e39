-- Printed by a program of this session (the kit's print, with functions walked by hand taken in).
import Derived.Test.YtoocmjdnboldhaaPNameCasex0
import Derived.Test.YtoocmjdnboldhaaPNameCasex1
import Derived.Test.YtoocmjdnboldhaaPNameCasex2
import Derived.Test.YtoocmjdnboldhaaPNameCasex3
namespace Go.Proofs.Ytoocmjdnboldhaa.PNameCase
open Go.RowKit Go.Proofs.YtoocmjdnboldhaaW.PrintWords Go.Proofs.YtoocmjdnboldhaaW.PrintLast Go.Proofs.YtoocmjdnboldhaaW.PrintMore
attribute [local go_sem] max2_int min2_int max_two min_two max_three min_three max_four min_four   -- for this text's walks alone
set_option linter.unusedVariables false
set_option linter.unusedSimpArgs false

end Go.Proofs.Ytoocmjdnboldhaa.PNameCase
