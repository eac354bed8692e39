-- Printed by a program of this session (the kit's print, with functions walked by hand taken in).
import Derived.Test.YtoocmjdnboldhaaPNameOrdersx0
import Derived.Test.YtoocmjdnboldhaaPNameOrdersx1
import Derived.Test.YtoocmjdnboldhaaPNameOrdersx2
import Derived.Test.YtoocmjdnboldhaaPNameOrdersx3
import Derived.Test.YtoocmjdnboldhaaPNameOrdersx4
import Derived.Test.YtoocmjdnboldhaaPNameOrdersx5
import Derived.Test.YtoocmjdnboldhaaPNameOrdersx6
namespace Go.Proofs.Ytoocmjdnboldhaa.PNameOrders
open Go.RowKit Go.Proofs.YtoocmjdnboldhaaW.PrintWords Go.Proofs.YtoocmjdnboldhaaW.PrintLast Go.Proofs.YtoocmjdnboldhaaW.PrintMore
attribute [local go_sem] max2_int min2_int max_two min_two max_three min_three max_four min_four   -- for this text's walks alone
set_option linter.unusedVariables false
set_option linter.unusedSimpArgs false

end Go.Proofs.Ytoocmjdnboldhaa.PNameOrders
