/- A part of a proof: tables and equations of the program's functions. -/
import Derived.Test.YtgnnljpdcafdkaaJEq1p0
import Derived.Test.YtgnnljpdcafdkaaJEq1p1
import Derived.Test.YtgnnljpdcafdkaaJEq1p2
