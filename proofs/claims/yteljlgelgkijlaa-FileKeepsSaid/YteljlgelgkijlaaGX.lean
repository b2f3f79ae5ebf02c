/- The last of the printed shallow forms. -/
import Derived.Test.YteljlgelgkijlaaG5b
